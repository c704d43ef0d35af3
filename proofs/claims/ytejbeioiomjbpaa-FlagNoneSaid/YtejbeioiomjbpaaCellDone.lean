import Derived.Test.YtejbeioiomjbpaaCellCb
namespace Go.Proofs.Ytejbeioiomjbpaa
open Go.RowKit

/-- An access at place k, that leaves v. -/
def Ar.does (A : Ar) (op : Int) (k : Nat) (v : Int) (did : Bool) : Ar :=
  ({ A with cells := A.cells.set k v }).noted ⟨op, k, A.cells[k]?.getD 0, v, did⟩

theorem addU_bd (o a : Int) : 0 ≤ addU o a ∧ addU o a < 18446744073709551616 := by
  unfold addU IntKind.wrap IntKind.signed IntKind.bits; simp; omega

theorem rowU_cell {w : World} {g cap : Nat} {l : List Int} {k : IntKind} {e : TypeId} (h : w.ownsRow 0 e 1 (.slice (some ⟨g, 0, none⟩) l.length cap) l.length (l.map (Value.int k))) {i : Nat} (hi : i < l.length) :
    w.cell? ⟨g, i, none⟩ = some (.int k (l[i]?.getD 0)) := by
  rw [h.cellAt i (by omega)]
  simp [hi]

theorem rowU_set {w : World} {g cap : Nat} {l : List Int} {k : IntKind} {e : TypeId} (h : w.ownsRow 0 e 1 (.slice (some ⟨g, 0, none⟩) l.length cap) l.length (l.map (Value.int k))) (i : Nat) (v : Int) :
    (w.setCell ⟨g, i, none⟩ (.int k v)).ownsRow 0 e 1 (.slice (some ⟨g, 0, none⟩) (l.set i v).length cap) (l.set i v).length ((l.set i v).map (Value.int k)) := by
  have := (h.stored i (.int k v)).1
  simpa [List.map_set] using this

/-- Room for the blocks of one's own beside the arena's. -/
theorem IsArena.nin {w : World} {p : Nat} {A : Ar} {S : List Nat} (h : IsArena w p A S) {k : Nat} (hk : w.heap.size ≤ k) : k ∉ S := fun hm => by have := h.lt k hm; omega

theorem IsArena.store {w : World} {p : Nat} {A : Ar} {S : List Nat} {lv : Value} {cb cap : Nat} (hok : A.ok) (hb : Blk w p #[lv, .int .u64 A.many, .slice (some ⟨cb, 0, none⟩) A.cells.length cap, .int .i64 A.most] 69)
    (hl : w.ownsRow 0 54 5 lv A.ring.length (encs A.ring)) (hc : w.ownsRow 0 39 1 (.slice (some ⟨cb, 0, none⟩) A.cells.length cap) A.cells.length (A.cells.map (Value.int .u64)))
    (hS : S = p :: (lv.ownBlock.toList ++ [cb])) {k : Nat} {v : Int} (hv : 0 ≤ v ∧ v < 18446744073709551616) :
    IsArena (w.setCell ⟨cb, k, none⟩ (.int .u64 v)) p { A with cells := A.cells.set k v } S := by
  obtain ⟨cs, hcs⟩ := ownsRow_blk hc (k := cb) rfl
  refine ⟨⟨hok.most1, hok.most2, by simpa using hok.fits, hok.ring1, hok.many1, ?_⟩, lv, _, ?_, ?_, rowU_set hc k v, by rw [hS]; rfl⟩
  · intro c hm
    rcases List.mem_or_eq_of_mem_set hm with h | h
    · exact hok.u64 c h
    · subst h; exact hv
  · simp only [List.length_set]
    exact hb.other (hb.ne hcs (by decide)) _
  · refine ownsRow_kept hl fun kk hkk => ?_
    obtain ⟨cs', hcs'⟩ := ownsRow_blk hl hkk
    exact heap_setCell_other _ _ _ _ (hcs'.ne hcs (by decide))

theorem Turn.mono_left {S T S' : List Nat} {w w' : World} (h : Turn S T w w') (hs : ∀ k, k ∈ S → k ∈ S') : Turn S' T w w' :=
  ⟨h.1.mono hs, fun k hk => (h.2 k hk).imp (hs k) id⟩


set_option maxRecDepth 100000 in
set_option maxHeartbeats 2000000 in
theorem done_store (p : Nat) (A : Ar) (S : List Nat) (op : Int) (k : Nat) (a : Int) (w : World) (h : IsArena w p A S) (hk : k < A.cells.length) (hm : A.many + 1 < 4611686018427387904) (ha : 0 ≤ a ∧ a < 18446744073709551616) :
    Calls Try.prog 59 #[.pointer (some ⟨p, 0, none⟩), .int .i64 op, .int .i64 k, .int .u64 a, .func (.func 60) #[] #[]] w fun e w' =>
      e = .returned (.tuple #[.agg (Acc.enc ⟨op, k, A.cells[k]?.getD 0, a, true⟩).toArray, .int .i64 0]) ∧
      ∃ S', IsArena w' p (A.does op k (a) true) S' ∧ Turn S S' w w' := by
  have hal := h
  have hnin := fun kk => hal.nin (k := kk)
  obtain ⟨hok, lv, cv, hb, hl, hc, hS⟩ := h
  have hu := hok.u64
  obtain ⟨av, cap, rfl, _, _⟩ := ownsRow_form hc
  obtain ⟨cb, cur, rfl, _, hg, _, _, _, _⟩ := ownsRow_some hc (by omega)
  have hS' : S = p :: (lv.ownBlock.toList ++ [cb]) := hS
  have hpS : p ∈ S := by rw [hS']; simp
  have hcS : cb ∈ S := by rw [hS']; simp
  have hpc : ¬ p = cb := hb.ne hg (by decide)
  have hplt := hb.lt
  have hclt := hg.lt
  have c1 := hb.cell 2
  have hcell := rowU_cell hc hk
  simp at c1
  obtain ⟨old, hold⟩ : ∃ old, A.cells[k]?.getD 0 = old := ⟨_, rfl⟩
  rw [hold] at hcell ⊢
  have hou : 0 ≤ old ∧ old < 18446744073709551616 := by
    rw [← hold]
    rw [List.getElem?_eq_getElem hk]
    exact hu _ (List.getElem_mem hk)
  have hfz : w.frozen? ⟨cb, k, none⟩ = false := hg.frozen k
  have hlen : (A.cells.length : Int) ≤ 65536 := by have := hok.fits; have := hok.most2; omega
  have hkl : (k : Int) < A.cells.length := by omega
  have HAL := Lib.hid hal
  have HOLD := Lib.hid hold
  have HB := Lib.hid hb
  have HL := Lib.hid hl
  have HC := Lib.hid hc
  have HG := Lib.hid hg
  have HOK := Lib.hid hok
  have HS := Lib.hid hS'
  have HN := Lib.hid hnin
  have HPS := Lib.hid hpS
  have HCS := Lib.hid hcS
  clear hold hb hl hc hg hok hS hS' hnin hpS hcS hu hal
  go_enter Try.func59, Try.ntmps59
  go_wp2_with fail
  go_step3
  go_wp2_with (go_at_call 55; refine (none_ar (HAL.out.alloc _)).mono ?_; rintro e w' ⟨rfl, rfl⟩)
  obtain ⟨wa, hwa⟩ : ∃ wa, w.alloc (.cells #[.int .i64 op, .int .i64 k, .int .u64 old, .int .u64 0, .bool false] 54) = wa := ⟨_, rfl⟩
  rw [hwa]
  have hka : Keeps Nothing w wa := hwa ▸ (Keeps.refl _ w).alloc _
  have hxa : Blk wa w.heap.size #[.int .i64 op, .int .i64 k, .int .u64 old, .int .u64 0, .bool false] 54 := hwa ▸ Blk.new w _ _
  have hsa : w.heap.size < wa.heap.size := hxa.lt
  clear hwa
  refine (cbStore _ _ _).mono ?_
  rintro e wb ⟨rfl, hkb⟩
  have hk1 : Keeps Nothing w wb := hka.then hkb
  have hxb := hkb.blk hxa id
  have hbb := hk1.blk HB.out id
  have hgb := hk1.blk HG.out id
  have hsb : w.heap.size < wb.heap.size := hxb.lt
  clear hka hxa hsa hkb c1 hcell hfz
  have x0 := hxb.cell 0
  have x1 := hxb.cell 1
  have x2 := hxb.cell 2
  have x3 := hxb.cell 3
  have x4 := hxb.cell 4
  have z0 := hxb.frozen 0
  have z1 := hxb.frozen 1
  have z2 := hxb.frozen 2
  have z3 := hxb.frozen 3
  have z4 := hxb.frozen 4
  have c1 := hbb.cell 2
  have hcell := rowU_cell (ownsRow_kept HC.out fun kk hkk => hk1.block kk (by obtain ⟨cs, hcs⟩ := ownsRow_blk HC.out hkk; exact hcs.lt) id) hk
  rw [HOLD.out] at hcell
  have hfz : wb.frozen? ⟨cb, k, none⟩ = false := hgb.frozen k
  simp at x0 x1 x2 x3 x4 c1
  have HK1 := Lib.hid hk1
  have HXB := Lib.hid hxb
  have HBB := Lib.hid hbb
  clear hk1 hxb hbb hgb
  go_wp2
  refine wp_mix (by kernel_rfl) (by kernel_rfl) (by kernel_rfl) ?_
  go_wp2
  refine wp_mix (by kernel_rfl) (by kernel_rfl) (by kernel_rfl) ?_
  go_wp2_with fail
  obtain ⟨wc, hwc⟩ : ∃ wc, (((wb.setCell ⟨w.heap.size, 3, none⟩ (.int .u64 (a))).setCell ⟨w.heap.size, 4, none⟩ (.bool true)).setCell ⟨cb, k, none⟩ (.int .u64 (a))).drew.drew = wc := ⟨_, rfl⟩
  rw [hwc]
  have hnb : ¬ w.heap.size = cb := by omega
  have halb : IsArena wb p A S := HAL.out.frame HK1.out (fun _ _ h => h)
  have hkc : Keeps (· ∈ S) w wc := hwc ▸ ((((HK1.out.nothing.set _ _ (.inr (by simp))).set _ _ (.inr (by simp))).set _ _ (.inl HCS.out)).drew.drew)
  have hxc : Blk wc w.heap.size #[.int .i64 op, .int .i64 k, .int .u64 old, .int .u64 (a), .bool true] 54 := hwc ▸ ((((HXB.out.set 3 _).set 4 _).other hnb _).drew.drew)
  have hac : IsArena wc p { A with cells := A.cells.set k (a) } S := by
    rw [← hwc]
    refine IsArena.drew (IsArena.drew ?_)
    obtain ⟨hok, hb, hl, hc, hS⟩ := (⟨HOK.out, HB.out, HL.out, HC.out, HS.out⟩ : A.ok ∧ _ ∧ _ ∧ _ ∧ _)
    have keep2 : ∀ kk, kk < w.heap.size → ((wb.setCell ⟨w.heap.size, 3, none⟩ (.int .u64 (a))).setCell ⟨w.heap.size, 4, none⟩ (.bool true)).heap[kk]? = w.heap[kk]? := fun kk hkk => by
      rw [heap_setCell_other _ _ _ _ (by simp; omega), heap_setCell_other _ _ _ _ (by simp; omega)]
      exact HK1.out.block kk hkk id
    refine IsArena.store hok ((keep2 p hplt).trans hb) (ownsRow_kept hl fun kk hkk => keep2 kk ?_) (ownsRow_kept hc fun kk hkk => keep2 kk ?_) hS ha
    · obtain ⟨cs, hcs⟩ := ownsRow_blk hl hkk; exact hcs.lt
    · obtain ⟨cs, hcs⟩ := ownsRow_blk hc hkk; exact hcs.lt
  clear hwc hsb x0 x1 x2 x3 x4 z0 z1 z2 z3 z4 c1 hcell hfz halb
  have HKC := Lib.hid hkc
  have HXC := Lib.hid hxc
  clear hkc hxc
  refine (note_ok p _ S ⟨op, k, old, a, true⟩ wc hac hm).mono ?_
  rintro e wd ⟨rfl, S', had, htd⟩
  have hns : ∀ kk, w.heap.size ≤ kk → ¬ kk ∈ S := HN.out
  have hxd := htd.keeps.blk HXC.out (hns _ (Nat.le_refl _))
  have hsd : w.heap.size < wd.heap.size := hxd.lt
  have x0 := hxd.cell 0
  have x1 := hxd.cell 1
  have x2 := hxd.cell 2
  have x3 := hxd.cell 3
  have x4 := hxd.cell 4
  have z0 := hxd.frozen 0
  have z1 := hxd.frozen 1
  have z2 := hxd.frozen 2
  have z3 := hxd.frozen 3
  have z4 := hxd.frozen 4
  simp at x0 x1 x2 x3 x4
  have HAD := Lib.hid had
  have HTD := Lib.hid htd
  have HXD := Lib.hid hxd
  clear had htd hxd hac hns
  go_wp2
  rw [Exit.noGoto_ret]
  have hend : Blk _ w.heap.size #[.int .i64 op, .int .i64 k, .int .u64 old, .int .u64 (a), .bool true] 54 := ((((HXD.out.set 0 (.int .i64 op)).set 1 (.int .i64 k)).set 2 (.int .u64 old)).set 3 (.int .u64 (a))).set 4 (.bool true)
  have y0 := hend.cell 0
  have y1 := hend.cell 1
  have y2 := hend.cell 2
  have y3 := hend.cell 3
  have y4 := hend.cell 4
  simp only [List.getElem?_toArray, List.getElem?_cons_zero, List.getElem?_cons_succ] at y0 y1 y2 y3 y4
  refine bodyPost_ret (v := .tuple #[.agg #[.int .i64 op, .int .i64 k, .int .u64 old, .int .u64 (a), .bool true], .int .i64 0]) ?_ rfl ⟨rfl, S', ?_, ?_⟩
  · simp [results, Try.results59, go_sem, y0, y1, y2, y3, y4]
  · have hn : ¬ w.heap.size ∈ S' := fun hm' => by
      rcases HTD.out.2 _ hm' with h | h
      · exact HN.out _ (Nat.le_refl _) h
      · have := HXC.out.lt; omega
    have h := ((((HAD.out.other (a := ⟨w.heap.size, 0, none⟩) hn (.int .i64 op)).other (a := ⟨w.heap.size, 1, none⟩) hn (.int .i64 k)).other (a := ⟨w.heap.size, 2, none⟩) hn (.int .u64 old)).other (a := ⟨w.heap.size, 3, none⟩) hn (.int .u64 (a))).other (a := ⟨w.heap.size, 4, none⟩) hn (.bool true)
    unfold Ar.does
    rw [HOLD.out]
    exact h
  · have hk := HKC.out.trans HTD.out.1 (fun i hi => .inl hi)
    refine ⟨((((hk.set _ _ (.inr (Nat.le_refl _))).set _ _ (.inr (Nat.le_refl _))).set _ _ (.inr (Nat.le_refl _))).set _ _ (.inr (Nat.le_refl _))).set _ _ (.inr (Nat.le_refl _)), fun kk hkk => ?_⟩
    have := HKC.out.size
    exact (HTD.out.2 kk hkk).imp id (fun h => by omega)

set_option maxRecDepth 100000 in
set_option maxHeartbeats 2000000 in
theorem done_add (p : Nat) (A : Ar) (S : List Nat) (op : Int) (k : Nat) (a : Int) (w : World) (h : IsArena w p A S) (hk : k < A.cells.length) (hm : A.many + 1 < 4611686018427387904)  :
    Calls Try.prog 59 #[.pointer (some ⟨p, 0, none⟩), .int .i64 op, .int .i64 k, .int .u64 a, .func (.func 63) #[] #[]] w fun e w' =>
      e = .returned (.tuple #[.agg (Acc.enc ⟨op, k, A.cells[k]?.getD 0, addU (A.cells[k]?.getD 0) a, true⟩).toArray, .int .i64 0]) ∧
      ∃ S', IsArena w' p (A.does op k (addU (A.cells[k]?.getD 0) a) true) S' ∧ Turn S S' w w' := by
  have hal := h
  have hnin := fun kk => hal.nin (k := kk)
  obtain ⟨hok, lv, cv, hb, hl, hc, hS⟩ := h
  have hu := hok.u64
  obtain ⟨av, cap, rfl, _, _⟩ := ownsRow_form hc
  obtain ⟨cb, cur, rfl, _, hg, _, _, _, _⟩ := ownsRow_some hc (by omega)
  have hS' : S = p :: (lv.ownBlock.toList ++ [cb]) := hS
  have hpS : p ∈ S := by rw [hS']; simp
  have hcS : cb ∈ S := by rw [hS']; simp
  have hpc : ¬ p = cb := hb.ne hg (by decide)
  have hplt := hb.lt
  have hclt := hg.lt
  have c1 := hb.cell 2
  have hcell := rowU_cell hc hk
  simp at c1
  obtain ⟨old, hold⟩ : ∃ old, A.cells[k]?.getD 0 = old := ⟨_, rfl⟩
  rw [hold] at hcell ⊢
  have hou : 0 ≤ old ∧ old < 18446744073709551616 := by
    rw [← hold]
    rw [List.getElem?_eq_getElem hk]
    exact hu _ (List.getElem_mem hk)
  have hfz : w.frozen? ⟨cb, k, none⟩ = false := hg.frozen k
  have hlen : (A.cells.length : Int) ≤ 65536 := by have := hok.fits; have := hok.most2; omega
  have hkl : (k : Int) < A.cells.length := by omega
  have HAL := Lib.hid hal
  have HOLD := Lib.hid hold
  have HB := Lib.hid hb
  have HL := Lib.hid hl
  have HC := Lib.hid hc
  have HG := Lib.hid hg
  have HOK := Lib.hid hok
  have HS := Lib.hid hS'
  have HN := Lib.hid hnin
  have HPS := Lib.hid hpS
  have HCS := Lib.hid hcS
  clear hold hb hl hc hg hok hS hS' hnin hpS hcS hu hal
  go_enter Try.func59, Try.ntmps59
  go_wp2_with fail
  go_step3
  go_wp2_with (go_at_call 55; refine (none_ar (HAL.out.alloc _)).mono ?_; rintro e w' ⟨rfl, rfl⟩)
  obtain ⟨wa, hwa⟩ : ∃ wa, w.alloc (.cells #[.int .i64 op, .int .i64 k, .int .u64 old, .int .u64 0, .bool false] 54) = wa := ⟨_, rfl⟩
  rw [hwa]
  have hka : Keeps Nothing w wa := hwa ▸ (Keeps.refl _ w).alloc _
  have hxa : Blk wa w.heap.size #[.int .i64 op, .int .i64 k, .int .u64 old, .int .u64 0, .bool false] 54 := hwa ▸ Blk.new w _ _
  have hsa : w.heap.size < wa.heap.size := hxa.lt
  clear hwa
  refine (cbAdd _ _ _).mono ?_
  rintro e wb ⟨rfl, hkb⟩
  have hk1 : Keeps Nothing w wb := hka.then hkb
  have hxb := hkb.blk hxa id
  have hbb := hk1.blk HB.out id
  have hgb := hk1.blk HG.out id
  have hsb : w.heap.size < wb.heap.size := hxb.lt
  clear hka hxa hsa hkb c1 hcell hfz
  have x0 := hxb.cell 0
  have x1 := hxb.cell 1
  have x2 := hxb.cell 2
  have x3 := hxb.cell 3
  have x4 := hxb.cell 4
  have z0 := hxb.frozen 0
  have z1 := hxb.frozen 1
  have z2 := hxb.frozen 2
  have z3 := hxb.frozen 3
  have z4 := hxb.frozen 4
  have c1 := hbb.cell 2
  have hcell := rowU_cell (ownsRow_kept HC.out fun kk hkk => hk1.block kk (by obtain ⟨cs, hcs⟩ := ownsRow_blk HC.out hkk; exact hcs.lt) id) hk
  rw [HOLD.out] at hcell
  have hfz : wb.frozen? ⟨cb, k, none⟩ = false := hgb.frozen k
  simp at x0 x1 x2 x3 x4 c1
  have HK1 := Lib.hid hk1
  have HXB := Lib.hid hxb
  have HBB := Lib.hid hbb
  clear hk1 hxb hbb hgb
  go_wp2
  refine wp_mix (by kernel_rfl) (by kernel_rfl) (by kernel_rfl) ?_
  go_wp2
  refine wp_mix (by kernel_rfl) (by kernel_rfl) (by kernel_rfl) ?_
  go_wp2_with fail
  obtain ⟨wc, hwc⟩ : ∃ wc, (((wb.setCell ⟨w.heap.size, 3, none⟩ (.int .u64 (addU (old) a))).setCell ⟨w.heap.size, 4, none⟩ (.bool true)).setCell ⟨cb, k, none⟩ (.int .u64 (addU (old) a))).drew.drew = wc := ⟨_, rfl⟩
  rw [hwc]
  have hnb : ¬ w.heap.size = cb := by omega
  have halb : IsArena wb p A S := HAL.out.frame HK1.out (fun _ _ h => h)
  have hkc : Keeps (· ∈ S) w wc := hwc ▸ ((((HK1.out.nothing.set _ _ (.inr (by simp))).set _ _ (.inr (by simp))).set _ _ (.inl HCS.out)).drew.drew)
  have hxc : Blk wc w.heap.size #[.int .i64 op, .int .i64 k, .int .u64 old, .int .u64 (addU (old) a), .bool true] 54 := hwc ▸ ((((HXB.out.set 3 _).set 4 _).other hnb _).drew.drew)
  have hac : IsArena wc p { A with cells := A.cells.set k (addU (old) a) } S := by
    rw [← hwc]
    refine IsArena.drew (IsArena.drew ?_)
    obtain ⟨hok, hb, hl, hc, hS⟩ := (⟨HOK.out, HB.out, HL.out, HC.out, HS.out⟩ : A.ok ∧ _ ∧ _ ∧ _ ∧ _)
    have keep2 : ∀ kk, kk < w.heap.size → ((wb.setCell ⟨w.heap.size, 3, none⟩ (.int .u64 (addU (old) a))).setCell ⟨w.heap.size, 4, none⟩ (.bool true)).heap[kk]? = w.heap[kk]? := fun kk hkk => by
      rw [heap_setCell_other _ _ _ _ (by simp; omega), heap_setCell_other _ _ _ _ (by simp; omega)]
      exact HK1.out.block kk hkk id
    refine IsArena.store hok ((keep2 p hplt).trans hb) (ownsRow_kept hl fun kk hkk => keep2 kk ?_) (ownsRow_kept hc fun kk hkk => keep2 kk ?_) hS (addU_bd _ _)
    · obtain ⟨cs, hcs⟩ := ownsRow_blk hl hkk; exact hcs.lt
    · obtain ⟨cs, hcs⟩ := ownsRow_blk hc hkk; exact hcs.lt
  clear hwc hsb x0 x1 x2 x3 x4 z0 z1 z2 z3 z4 c1 hcell hfz halb
  have HKC := Lib.hid hkc
  have HXC := Lib.hid hxc
  clear hkc hxc
  refine (note_ok p _ S ⟨op, k, old, addU (old) a, true⟩ wc hac hm).mono ?_
  rintro e wd ⟨rfl, S', had, htd⟩
  have hns : ∀ kk, w.heap.size ≤ kk → ¬ kk ∈ S := HN.out
  have hxd := htd.keeps.blk HXC.out (hns _ (Nat.le_refl _))
  have hsd : w.heap.size < wd.heap.size := hxd.lt
  have x0 := hxd.cell 0
  have x1 := hxd.cell 1
  have x2 := hxd.cell 2
  have x3 := hxd.cell 3
  have x4 := hxd.cell 4
  have z0 := hxd.frozen 0
  have z1 := hxd.frozen 1
  have z2 := hxd.frozen 2
  have z3 := hxd.frozen 3
  have z4 := hxd.frozen 4
  simp at x0 x1 x2 x3 x4
  have HAD := Lib.hid had
  have HTD := Lib.hid htd
  have HXD := Lib.hid hxd
  clear had htd hxd hac hns
  go_wp2
  rw [Exit.noGoto_ret]
  have hend : Blk _ w.heap.size #[.int .i64 op, .int .i64 k, .int .u64 old, .int .u64 (addU (old) a), .bool true] 54 := ((((HXD.out.set 0 (.int .i64 op)).set 1 (.int .i64 k)).set 2 (.int .u64 old)).set 3 (.int .u64 (addU (old) a))).set 4 (.bool true)
  have y0 := hend.cell 0
  have y1 := hend.cell 1
  have y2 := hend.cell 2
  have y3 := hend.cell 3
  have y4 := hend.cell 4
  simp only [List.getElem?_toArray, List.getElem?_cons_zero, List.getElem?_cons_succ] at y0 y1 y2 y3 y4
  refine bodyPost_ret (v := .tuple #[.agg #[.int .i64 op, .int .i64 k, .int .u64 old, .int .u64 (addU (old) a), .bool true], .int .i64 0]) ?_ rfl ⟨rfl, S', ?_, ?_⟩
  · simp [results, Try.results59, go_sem, y0, y1, y2, y3, y4]
  · have hn : ¬ w.heap.size ∈ S' := fun hm' => by
      rcases HTD.out.2 _ hm' with h | h
      · exact HN.out _ (Nat.le_refl _) h
      · have := HXC.out.lt; omega
    have h := ((((HAD.out.other (a := ⟨w.heap.size, 0, none⟩) hn (.int .i64 op)).other (a := ⟨w.heap.size, 1, none⟩) hn (.int .i64 k)).other (a := ⟨w.heap.size, 2, none⟩) hn (.int .u64 old)).other (a := ⟨w.heap.size, 3, none⟩) hn (.int .u64 (addU (old) a))).other (a := ⟨w.heap.size, 4, none⟩) hn (.bool true)
    unfold Ar.does
    rw [HOLD.out]
    exact h
  · have hk := HKC.out.trans HTD.out.1 (fun i hi => .inl hi)
    refine ⟨((((hk.set _ _ (.inr (Nat.le_refl _))).set _ _ (.inr (Nat.le_refl _))).set _ _ (.inr (Nat.le_refl _))).set _ _ (.inr (Nat.le_refl _))).set _ _ (.inr (Nat.le_refl _)), fun kk hkk => ?_⟩
    have := HKC.out.size
    exact (HTD.out.2 kk hkk).imp id (fun h => by omega)

set_option maxRecDepth 100000 in
set_option maxHeartbeats 2000000 in
theorem done_swap (p : Nat) (A : Ar) (S : List Nat) (op : Int) (k : Nat) (a b : Int) (w : World) (h : IsArena w p A S) (hk : k < A.cells.length) (hm : A.many + 1 < 4611686018427387904) (hbb : 0 ≤ b ∧ b < 18446744073709551616) :
    Calls Try.prog 61 #[.pointer (some ⟨p, 0, none⟩), .int .i64 op, .int .i64 k, .agg #[.int .u64 a, .int .u64 b], .func (.func 62) #[] #[]] w fun e w' =>
      e = .returned (.tuple #[.agg (Acc.enc ⟨op, k, A.cells[k]?.getD 0, if A.cells[k]?.getD 0 = a then b else A.cells[k]?.getD 0, (decide (A.cells[k]?.getD 0 = a))⟩).toArray, .int .i64 0]) ∧
      ∃ S', IsArena w' p (A.does op k (if A.cells[k]?.getD 0 = a then b else A.cells[k]?.getD 0) (decide (A.cells[k]?.getD 0 = a))) S' ∧ Turn S S' w w' := by
  have hal := h
  have hnin := fun kk => hal.nin (k := kk)
  obtain ⟨hok, lv, cv, hb, hl, hc, hS⟩ := h
  have hu := hok.u64
  obtain ⟨av, cap, rfl, _, _⟩ := ownsRow_form hc
  obtain ⟨cb, cur, rfl, _, hg, _, _, _, _⟩ := ownsRow_some hc (by omega)
  have hS' : S = p :: (lv.ownBlock.toList ++ [cb]) := hS
  have hpS : p ∈ S := by rw [hS']; simp
  have hcS : cb ∈ S := by rw [hS']; simp
  have hpc : ¬ p = cb := hb.ne hg (by decide)
  have hplt := hb.lt
  have hclt := hg.lt
  have c1 := hb.cell 2
  have hcell := rowU_cell hc hk
  simp at c1
  obtain ⟨old, hold⟩ : ∃ old, A.cells[k]?.getD 0 = old := ⟨_, rfl⟩
  rw [hold] at hcell ⊢
  obtain ⟨nv, hnv⟩ : ∃ nv, (if old = a then b else old) = nv := ⟨_, rfl⟩
  obtain ⟨dv, hdv⟩ : ∃ dv, decide (old = a) = dv := ⟨_, rfl⟩
  rw [hnv, hdv]
  have hou : 0 ≤ old ∧ old < 18446744073709551616 := by
    rw [← hold]
    rw [List.getElem?_eq_getElem hk]
    exact hu _ (List.getElem_mem hk)
  have hfz : w.frozen? ⟨cb, k, none⟩ = false := hg.frozen k
  have hlen : (A.cells.length : Int) ≤ 65536 := by have := hok.fits; have := hok.most2; omega
  have hkl : (k : Int) < A.cells.length := by omega
  have HAL := Lib.hid hal
  have HOLD := Lib.hid hold
  have hnvb : 0 ≤ nv ∧ nv < 18446744073709551616 := by rw [← hnv]; split <;> assumption
  have HNV := Lib.hid hnv
  have HDV := Lib.hid hdv
  clear hnv hdv
  have HB := Lib.hid hb
  have HL := Lib.hid hl
  have HC := Lib.hid hc
  have HG := Lib.hid hg
  have HOK := Lib.hid hok
  have HS := Lib.hid hS'
  have HN := Lib.hid hnin
  have HPS := Lib.hid hpS
  have HCS := Lib.hid hcS
  clear hold hb hl hc hg hok hS hS' hnin hpS hcS hu hal
  go_enter Try.func61, Try.ntmps61
  go_wp2_with fail
  go_step3
  go_wp2_with (go_at_call 55; refine (none_ar ((HAL.out.alloc _).alloc _)).mono ?_; rintro e w' ⟨rfl, rfl⟩)
  obtain ⟨w0, hw0⟩ : ∃ w0, w.alloc (.cells #[.int .u64 a, .int .u64 b] 106) = w0 := ⟨_, rfl⟩
  have hsz : w.heap.size + 1 = w0.heap.size := by rw [← hw0]; simp
  rw [hw0, hsz]
  have HW : Hid (Keeps Nothing w w0) := Lib.hid (hw0 ▸ (Keeps.refl _ w).alloc _)
  have g1 := Lib.hid (hw0 ▸ HAL.out.alloc _ : IsArena w0 p A S)
  have g2 := Lib.hid (HW.out.blk HB.out id)
  have g3 := Lib.hid (HW.out.blk HG.out id)
  have g4 := Lib.hid (ownsRow_kept HL.out fun kk hkk => HW.out.block kk (by obtain ⟨cs, hcs⟩ := ownsRow_blk HL.out hkk; exact hcs.lt) id)
  have g5 := Lib.hid (ownsRow_kept HC.out fun kk hkk => HW.out.block kk (by obtain ⟨cs, hcs⟩ := ownsRow_blk HC.out hkk; exact hcs.lt) id)
  clear HAL HB HG HL HC HN
  have HAL := g1
  have HB := g2
  have HG := g3
  have HL := g4
  have HC := g5
  have HN := Lib.hid (fun kk => HAL.out.nin (k := kk))
  clear g1 g2 g3 g4 g5 hplt hclt hw0 hsz
  have hplt := HB.out.lt
  have hclt := HG.out.lt
  obtain ⟨wa, hwa⟩ : ∃ wa, w0.alloc (.cells #[.int .i64 op, .int .i64 k, .int .u64 old, .int .u64 0, .bool false] 54) = wa := ⟨_, rfl⟩
  rw [hwa]
  have hka : Keeps Nothing w0 wa := hwa ▸ (Keeps.refl _ w0).alloc _
  have hxa : Blk wa w0.heap.size #[.int .i64 op, .int .i64 k, .int .u64 old, .int .u64 0, .bool false] 54 := hwa ▸ Blk.new w0 _ _
  have hsa : w0.heap.size < wa.heap.size := hxa.lt
  clear hwa
  have CB := cbSwap old a b wa
  rw [HNV.out, HDV.out] at CB
  refine CB.mono ?_
  clear CB
  rintro e wb ⟨rfl, hkb⟩
  have hk1 : Keeps Nothing w0 wb := hka.then hkb
  have hxb := hkb.blk hxa id
  have hbb := hk1.blk HB.out id
  have hgb := hk1.blk HG.out id
  have hsb : w0.heap.size < wb.heap.size := hxb.lt
  clear hka hxa hsa hkb c1 hcell hfz
  have x0 := hxb.cell 0
  have x1 := hxb.cell 1
  have x2 := hxb.cell 2
  have x3 := hxb.cell 3
  have x4 := hxb.cell 4
  have z0 := hxb.frozen 0
  have z1 := hxb.frozen 1
  have z2 := hxb.frozen 2
  have z3 := hxb.frozen 3
  have z4 := hxb.frozen 4
  have c1 := hbb.cell 2
  have hcell := rowU_cell (ownsRow_kept HC.out fun kk hkk => hk1.block kk (by obtain ⟨cs, hcs⟩ := ownsRow_blk HC.out hkk; exact hcs.lt) id) hk
  rw [HOLD.out] at hcell
  have hfz : wb.frozen? ⟨cb, k, none⟩ = false := hgb.frozen k
  simp at x0 x1 x2 x3 x4 c1
  have HK1 := Lib.hid hk1
  have HXB := Lib.hid hxb
  have HBB := Lib.hid hbb
  clear hk1 hxb hbb hgb
  go_wp2
  refine wp_mix (by kernel_rfl) (by kernel_rfl) (by kernel_rfl) ?_
  go_wp2
  refine wp_mix (by kernel_rfl) (by kernel_rfl) (by kernel_rfl) ?_
  go_wp2_with fail
  obtain ⟨wc, hwc⟩ : ∃ wc, (((wb.setCell ⟨w0.heap.size, 3, none⟩ (.int .u64 (nv))).setCell ⟨w0.heap.size, 4, none⟩ (.bool dv)).setCell ⟨cb, k, none⟩ (.int .u64 (nv))).drew.drew = wc := ⟨_, rfl⟩
  rw [hwc]
  have hnb : ¬ w0.heap.size = cb := by omega
  have halb : IsArena wb p A S := HAL.out.frame HK1.out (fun _ _ h => h)
  have hkc : Keeps (· ∈ S) w0 wc := hwc ▸ ((((HK1.out.nothing.set _ _ (.inr (by simp))).set _ _ (.inr (by simp))).set _ _ (.inl HCS.out)).drew.drew)
  have hxc : Blk wc w0.heap.size #[.int .i64 op, .int .i64 k, .int .u64 old, .int .u64 (nv), .bool dv] 54 := hwc ▸ ((((HXB.out.set 3 _).set 4 _).other hnb _).drew.drew)
  have hac : IsArena wc p { A with cells := A.cells.set k (nv) } S := by
    rw [← hwc]
    refine IsArena.drew (IsArena.drew ?_)
    obtain ⟨hok, hb, hl, hc, hS⟩ := (⟨HOK.out, HB.out, HL.out, HC.out, HS.out⟩ : A.ok ∧ _ ∧ _ ∧ _ ∧ _)
    have keep2 : ∀ kk, kk < w0.heap.size → ((wb.setCell ⟨w0.heap.size, 3, none⟩ (.int .u64 (nv))).setCell ⟨w0.heap.size, 4, none⟩ (.bool dv)).heap[kk]? = w0.heap[kk]? := fun kk hkk => by
      rw [heap_setCell_other _ _ _ _ (by simp; omega), heap_setCell_other _ _ _ _ (by simp; omega)]
      exact HK1.out.block kk hkk id
    refine IsArena.store hok ((keep2 p hplt).trans hb) (ownsRow_kept hl fun kk hkk => keep2 kk ?_) (ownsRow_kept hc fun kk hkk => keep2 kk ?_) hS hnvb
    · obtain ⟨cs, hcs⟩ := ownsRow_blk hl hkk; exact hcs.lt
    · obtain ⟨cs, hcs⟩ := ownsRow_blk hc hkk; exact hcs.lt
  clear hwc hsb x0 x1 x2 x3 x4 z0 z1 z2 z3 z4 c1 hcell hfz halb
  have HKC := Lib.hid hkc
  have HXC := Lib.hid hxc
  clear hkc hxc
  refine (note_ok p _ S ⟨op, k, old, nv, dv⟩ wc hac hm).mono ?_
  rintro e wd ⟨rfl, S', had, htd⟩
  have hns : ∀ kk, w0.heap.size ≤ kk → ¬ kk ∈ S := HN.out
  have hxd := htd.keeps.blk HXC.out (hns _ (Nat.le_refl _))
  have hsd : w0.heap.size < wd.heap.size := hxd.lt
  have x0 := hxd.cell 0
  have x1 := hxd.cell 1
  have x2 := hxd.cell 2
  have x3 := hxd.cell 3
  have x4 := hxd.cell 4
  have z0 := hxd.frozen 0
  have z1 := hxd.frozen 1
  have z2 := hxd.frozen 2
  have z3 := hxd.frozen 3
  have z4 := hxd.frozen 4
  simp at x0 x1 x2 x3 x4
  have HAD := Lib.hid had
  have HTD := Lib.hid htd
  have HXD := Lib.hid hxd
  clear had htd hxd hac hns
  go_wp2
  rw [Exit.noGoto_ret]
  have hend : Blk _ w0.heap.size #[.int .i64 op, .int .i64 k, .int .u64 old, .int .u64 (nv), .bool dv] 54 := ((((HXD.out.set 0 (.int .i64 op)).set 1 (.int .i64 k)).set 2 (.int .u64 old)).set 3 (.int .u64 (nv))).set 4 (.bool dv)
  have y0 := hend.cell 0
  have y1 := hend.cell 1
  have y2 := hend.cell 2
  have y3 := hend.cell 3
  have y4 := hend.cell 4
  simp only [List.getElem?_toArray, List.getElem?_cons_zero, List.getElem?_cons_succ] at y0 y1 y2 y3 y4
  refine bodyPost_ret (v := .tuple #[.agg #[.int .i64 op, .int .i64 k, .int .u64 old, .int .u64 (nv), .bool dv], .int .i64 0]) ?_ rfl ⟨rfl, S', ?_, ?_⟩
  · simp [results, Try.results61, go_sem, y0, y1, y2, y3, y4]
  · have hn : ¬ w0.heap.size ∈ S' := fun hm' => by
      rcases HTD.out.2 _ hm' with h | h
      · exact HN.out _ (Nat.le_refl _) h
      · have := HXC.out.lt; omega
    have h := ((((HAD.out.other (a := ⟨w0.heap.size, 0, none⟩) hn (.int .i64 op)).other (a := ⟨w0.heap.size, 1, none⟩) hn (.int .i64 k)).other (a := ⟨w0.heap.size, 2, none⟩) hn (.int .u64 old)).other (a := ⟨w0.heap.size, 3, none⟩) hn (.int .u64 (nv))).other (a := ⟨w0.heap.size, 4, none⟩) hn (.bool dv)
    unfold Ar.does
    rw [HOLD.out]
    exact h
  · have hk := HKC.out.trans HTD.out.1 (fun i hi => .inl hi)
    refine Turn.from HW.out ⟨((((hk.set _ _ (.inr (Nat.le_refl _))).set _ _ (.inr (Nat.le_refl _))).set _ _ (.inr (Nat.le_refl _))).set _ _ (.inr (Nat.le_refl _))).set _ _ (.inr (Nat.le_refl _)), fun kk hkk => ?_⟩
    have := HKC.out.size
    exact (HTD.out.2 kk hkk).imp id (fun h => by omega)

set_option maxRecDepth 100000 in
set_option maxHeartbeats 2000000 in
theorem done_load (p : Nat) (A : Ar) (S : List Nat) (op : Int) (k : Nat) (a : Int) (w : World) (h : IsArena w p A S) (hk : k < A.cells.length) (hm : A.many + 1 < 4611686018427387904)  :
    Calls Try.prog 57 #[.pointer (some ⟨p, 0, none⟩), .int .i64 op, .int .i64 k, .int .i64 a, .func (.func 58) #[] #[]] w fun e w' =>
      e = .returned (.tuple #[.agg (Acc.enc ⟨op, k, A.cells[k]?.getD 0, A.cells[k]?.getD 0, true⟩).toArray, .int .i64 0]) ∧
      ∃ S', IsArena w' p (A.does op k (A.cells[k]?.getD 0) true) S' ∧ Turn S S' w w' := by
  have hal := h
  have hnin := fun kk => hal.nin (k := kk)
  obtain ⟨hok, lv, cv, hb, hl, hc, hS⟩ := h
  have hu := hok.u64
  obtain ⟨av, cap, rfl, _, _⟩ := ownsRow_form hc
  obtain ⟨cb, cur, rfl, _, hg, _, _, _, _⟩ := ownsRow_some hc (by omega)
  have hS' : S = p :: (lv.ownBlock.toList ++ [cb]) := hS
  have hpS : p ∈ S := by rw [hS']; simp
  have hcS : cb ∈ S := by rw [hS']; simp
  have hpc : ¬ p = cb := hb.ne hg (by decide)
  have hplt := hb.lt
  have hclt := hg.lt
  have c1 := hb.cell 2
  have hcell := rowU_cell hc hk
  simp at c1
  obtain ⟨old, hold⟩ : ∃ old, A.cells[k]?.getD 0 = old := ⟨_, rfl⟩
  rw [hold] at hcell ⊢
  have hou : 0 ≤ old ∧ old < 18446744073709551616 := by
    rw [← hold]
    rw [List.getElem?_eq_getElem hk]
    exact hu _ (List.getElem_mem hk)
  have hfz : w.frozen? ⟨cb, k, none⟩ = false := hg.frozen k
  have hlen : (A.cells.length : Int) ≤ 65536 := by have := hok.fits; have := hok.most2; omega
  have hkl : (k : Int) < A.cells.length := by omega
  have HAL := Lib.hid hal
  have HOLD := Lib.hid hold
  have HB := Lib.hid hb
  have HL := Lib.hid hl
  have HC := Lib.hid hc
  have HG := Lib.hid hg
  have HOK := Lib.hid hok
  have HS := Lib.hid hS'
  have HN := Lib.hid hnin
  have HPS := Lib.hid hpS
  have HCS := Lib.hid hcS
  clear hold hb hl hc hg hok hS hS' hnin hpS hcS hu hal
  go_enter Try.func57, Try.ntmps57
  go_wp2_with fail
  go_step3
  go_wp2_with (go_at_call 55; refine (none_ar (HAL.out.alloc _)).mono ?_; rintro e w' ⟨rfl, rfl⟩)
  obtain ⟨wa, hwa⟩ : ∃ wa, w.alloc (.cells #[.int .i64 op, .int .i64 k, .int .u64 old, .int .u64 0, .bool false] 54) = wa := ⟨_, rfl⟩
  rw [hwa]
  have hka : Keeps Nothing w wa := hwa ▸ (Keeps.refl _ w).alloc _
  have hxa : Blk wa w.heap.size #[.int .i64 op, .int .i64 k, .int .u64 old, .int .u64 0, .bool false] 54 := hwa ▸ Blk.new w _ _
  have hsa : w.heap.size < wa.heap.size := hxa.lt
  clear hwa
  refine (cbLoad _ _ _).mono ?_
  rintro e wb ⟨rfl, hkb⟩
  have hk1 : Keeps Nothing w wb := hka.then hkb
  have hxb := hkb.blk hxa id
  have hbb := hk1.blk HB.out id
  have hgb := hk1.blk HG.out id
  have hsb : w.heap.size < wb.heap.size := hxb.lt
  clear hka hxa hsa hkb c1 hcell hfz
  have x0 := hxb.cell 0
  have x1 := hxb.cell 1
  have x2 := hxb.cell 2
  have x3 := hxb.cell 3
  have x4 := hxb.cell 4
  have z0 := hxb.frozen 0
  have z1 := hxb.frozen 1
  have z2 := hxb.frozen 2
  have z3 := hxb.frozen 3
  have z4 := hxb.frozen 4
  have c1 := hbb.cell 2
  have hcell := rowU_cell (ownsRow_kept HC.out fun kk hkk => hk1.block kk (by obtain ⟨cs, hcs⟩ := ownsRow_blk HC.out hkk; exact hcs.lt) id) hk
  rw [HOLD.out] at hcell
  have hfz : wb.frozen? ⟨cb, k, none⟩ = false := hgb.frozen k
  simp at x0 x1 x2 x3 x4 c1
  have HK1 := Lib.hid hk1
  have HXB := Lib.hid hxb
  have HBB := Lib.hid hbb
  clear hk1 hxb hbb hgb
  go_wp2
  refine wp_mix (by kernel_rfl) (by kernel_rfl) (by kernel_rfl) ?_
  go_wp2
  refine wp_mix (by kernel_rfl) (by kernel_rfl) (by kernel_rfl) ?_
  go_wp2_with fail
  obtain ⟨wc, hwc⟩ : ∃ wc, (((wb.setCell ⟨w.heap.size, 3, none⟩ (.int .u64 (old))).setCell ⟨w.heap.size, 4, none⟩ (.bool true)).setCell ⟨cb, k, none⟩ (.int .u64 (old))).drew.drew = wc := ⟨_, rfl⟩
  rw [hwc]
  have hnb : ¬ w.heap.size = cb := by omega
  have halb : IsArena wb p A S := HAL.out.frame HK1.out (fun _ _ h => h)
  have hkc : Keeps (· ∈ S) w wc := hwc ▸ ((((HK1.out.nothing.set _ _ (.inr (by simp))).set _ _ (.inr (by simp))).set _ _ (.inl HCS.out)).drew.drew)
  have hxc : Blk wc w.heap.size #[.int .i64 op, .int .i64 k, .int .u64 old, .int .u64 (old), .bool true] 54 := hwc ▸ ((((HXB.out.set 3 _).set 4 _).other hnb _).drew.drew)
  have hac : IsArena wc p { A with cells := A.cells.set k (old) } S := by
    rw [← hwc]
    refine IsArena.drew (IsArena.drew ?_)
    obtain ⟨hok, hb, hl, hc, hS⟩ := (⟨HOK.out, HB.out, HL.out, HC.out, HS.out⟩ : A.ok ∧ _ ∧ _ ∧ _ ∧ _)
    have keep2 : ∀ kk, kk < w.heap.size → ((wb.setCell ⟨w.heap.size, 3, none⟩ (.int .u64 (old))).setCell ⟨w.heap.size, 4, none⟩ (.bool true)).heap[kk]? = w.heap[kk]? := fun kk hkk => by
      rw [heap_setCell_other _ _ _ _ (by simp; omega), heap_setCell_other _ _ _ _ (by simp; omega)]
      exact HK1.out.block kk hkk id
    refine IsArena.store hok ((keep2 p hplt).trans hb) (ownsRow_kept hl fun kk hkk => keep2 kk ?_) (ownsRow_kept hc fun kk hkk => keep2 kk ?_) hS hou
    · obtain ⟨cs, hcs⟩ := ownsRow_blk hl hkk; exact hcs.lt
    · obtain ⟨cs, hcs⟩ := ownsRow_blk hc hkk; exact hcs.lt
  clear hwc hsb x0 x1 x2 x3 x4 z0 z1 z2 z3 z4 c1 hcell hfz halb
  have HKC := Lib.hid hkc
  have HXC := Lib.hid hxc
  clear hkc hxc
  refine (note_ok p _ S ⟨op, k, old, old, true⟩ wc hac hm).mono ?_
  rintro e wd ⟨rfl, S', had, htd⟩
  have hns : ∀ kk, w.heap.size ≤ kk → ¬ kk ∈ S := HN.out
  have hxd := htd.keeps.blk HXC.out (hns _ (Nat.le_refl _))
  have hsd : w.heap.size < wd.heap.size := hxd.lt
  have x0 := hxd.cell 0
  have x1 := hxd.cell 1
  have x2 := hxd.cell 2
  have x3 := hxd.cell 3
  have x4 := hxd.cell 4
  have z0 := hxd.frozen 0
  have z1 := hxd.frozen 1
  have z2 := hxd.frozen 2
  have z3 := hxd.frozen 3
  have z4 := hxd.frozen 4
  simp at x0 x1 x2 x3 x4
  have HAD := Lib.hid had
  have HTD := Lib.hid htd
  have HXD := Lib.hid hxd
  clear had htd hxd hac hns
  go_wp2
  rw [Exit.noGoto_ret]
  have hend : Blk _ w.heap.size #[.int .i64 op, .int .i64 k, .int .u64 old, .int .u64 (old), .bool true] 54 := ((((HXD.out.set 0 (.int .i64 op)).set 1 (.int .i64 k)).set 2 (.int .u64 old)).set 3 (.int .u64 (old))).set 4 (.bool true)
  have y0 := hend.cell 0
  have y1 := hend.cell 1
  have y2 := hend.cell 2
  have y3 := hend.cell 3
  have y4 := hend.cell 4
  simp only [List.getElem?_toArray, List.getElem?_cons_zero, List.getElem?_cons_succ] at y0 y1 y2 y3 y4
  refine bodyPost_ret (v := .tuple #[.agg #[.int .i64 op, .int .i64 k, .int .u64 old, .int .u64 (old), .bool true], .int .i64 0]) ?_ rfl ⟨rfl, S', ?_, ?_⟩
  · simp [results, Try.results57, go_sem, y0, y1, y2, y3, y4]
  · have hn : ¬ w.heap.size ∈ S' := fun hm' => by
      rcases HTD.out.2 _ hm' with h | h
      · exact HN.out _ (Nat.le_refl _) h
      · have := HXC.out.lt; omega
    have h := ((((HAD.out.other (a := ⟨w.heap.size, 0, none⟩) hn (.int .i64 op)).other (a := ⟨w.heap.size, 1, none⟩) hn (.int .i64 k)).other (a := ⟨w.heap.size, 2, none⟩) hn (.int .u64 old)).other (a := ⟨w.heap.size, 3, none⟩) hn (.int .u64 (old))).other (a := ⟨w.heap.size, 4, none⟩) hn (.bool true)
    unfold Ar.does
    rw [HOLD.out]
    exact h
  · have hk := HKC.out.trans HTD.out.1 (fun i hi => .inl hi)
    refine ⟨((((hk.set _ _ (.inr (Nat.le_refl _))).set _ _ (.inr (Nat.le_refl _))).set _ _ (.inr (Nat.le_refl _))).set _ _ (.inr (Nat.le_refl _))).set _ _ (.inr (Nat.le_refl _)), fun kk hkk => ?_⟩
    have := HKC.out.size
    exact (HTD.out.2 kk hkk).imp id (fun h => by omega)

end Go.Proofs.Ytejbeioiomjbpaa

import Derived.Test.YtejbeioiomjbpaaCellClone
import Derived.Deep.RegionWith
namespace Go.Proofs.Ytejbeioiomjbpaa
open Go.RowKit

set_option maxRecDepth 100000 in
set_option maxHeartbeats 1000000 in
theorem Copy_none (v : Value) (w : World) (h : NoArena w v) :
    Calls Try.prog 48 #[v] w fun e w' => e = .returned (.pointer none) ∧ Keeps Nothing w w' := by
  have H := Lib.hid h
  clear h
  go_enter Try.func48, Try.ntmps48
  go_wp2_with (go_at_call 55; refine (none_no _ _ H.out).mono ?_; rintro e w' ⟨rfl, rfl⟩)
  go_ret
  exact ⟨rfl, Keeps.refl _ _⟩

theorem copy_end {w wa w1 w2 : World} {q : Nat} {A : Ar} {x0 x2 v1 v2 : Value} (hq : q = w.heap.size) (hok : A.ok) (hka : Keeps Nothing w wa) (hqa : q < wa.heap.size) (hk1 : Keeps Nothing wa w1) (hk2 : Keeps Nothing w1 w2)
    (hq2 : Blk w2 q #[x0, .int .u64 A.many, x2, .int .i64 A.most] 69) (ho1 : w1.ownsRow wa.heap.size 39 1 v1 A.cells.length (A.cells.map (Value.int .u64)))
    (ho2 : w2.ownsRow w1.heap.size 54 5 v2 A.ring.length (encs A.ring)) :
    ∃ T, IsArena ((w2.setCell ⟨q, 2, none⟩ v1).setCell ⟨q, 0, none⟩ v2) q A T ∧ (∀ k ∈ T, w.heap.size ≤ k) ∧ Keeps Nothing w ((w2.setCell ⟨q, 2, none⟩ v1).setCell ⟨q, 0, none⟩ v2) := by
  have ho1' := ownsRow_kept ho1 fun k hk => hk2.block k (by obtain ⟨cs, hcs⟩ := ownsRow_blk ho1 hk; exact hcs.lt) id
  have b1 : ∀ k, v1.ownBlock = some k → wa.heap.size ≤ k := fun k hk => by
    rcases ho1.2 with ⟨rfl, _⟩ | ⟨g, cap, cur, rfl, hb, _⟩
    · cases hk
    · simp [Value.ownBlock] at hk; omega
  have b2 : ∀ k, v2.ownBlock = some k → w1.heap.size ≤ k := fun k hk => by
    rcases ho2.2 with ⟨rfl, _⟩ | ⟨g, cap, cur, rfl, hb, _⟩
    · cases hk
    · simp [Value.ownBlock] at hk; omega
  have s1 := hk1.size
  have s2 := hka.size
  refine ⟨_, ⟨hok, v2, v1, (hq2.set 2 v1).set 0 v2, ?_, ?_, rfl⟩, ?_, ?_⟩
  · exact ownsRow_kept (ownsRow_base ho2 (Nat.zero_le _)) fun k hk => by
      have := b2 k hk
      rw [heap_setCell_other _ _ _ _ (by show k ≠ q; omega), heap_setCell_other _ _ _ _ (by show k ≠ q; omega)]
  · exact ownsRow_kept (ownsRow_base ho1' (Nat.zero_le _)) fun k hk => by
      have := b1 k hk
      rw [heap_setCell_other _ _ _ _ (by show k ≠ q; omega), heap_setCell_other _ _ _ _ (by show k ≠ q; omega)]
  · intro k hk
    simp only [List.mem_cons, List.mem_append, Option.mem_toList] at hk
    rcases hk with rfl | hk | hk
    · omega
    · have := b2 k hk; omega
    · have := b1 k hk; omega
  · have h := ((hka.then hk1).then hk2)
    exact (h.set ⟨q, 2, none⟩ v1 (.inr (by show w.heap.size ≤ q; omega))).set ⟨q, 0, none⟩ v2 (.inr (by show w.heap.size ≤ q; omega))

set_option maxRecDepth 100000 in
set_option maxHeartbeats 2000000 in
theorem Copy_ok (p : Nat) (A : Ar) (S : List Nat) (w : World) (h : IsArena w p A S) :
    Calls Try.prog 48 #[.pointer (some ⟨p, 0, none⟩)] w fun e w' => ∃ q T, e = .returned (.pointer (some ⟨q, 0, none⟩)) ∧ IsArena w' q A T ∧ (∀ k ∈ T, w.heap.size ≤ k) ∧ Keeps Nothing w w' := by
  have H := Lib.hid h
  obtain ⟨hl1, hl2⟩ := h.lens
  obtain ⟨hok, lv, cv, hb, hl, hc, hS⟩ := h
  have hr1 : A.ring.length ≤ 1024 := by have := hok.ring1; omega
  obtain ⟨av, cap, rfl, _, _⟩ := ownsRow_form hc
  obtain ⟨al, capl, rfl, _, _⟩ := ownsRow_form hl
  have c0 := hb.cell 0
  have c1 := hb.cell 1
  have c2 := hb.cell 2
  have c3 := hb.cell 3
  simp at c0 c1 c2 c3
  have hplt := hb.lt
  have HB := Lib.hid hb
  have HL := Lib.hid hl
  have HC := Lib.hid hc
  have HOK := Lib.hid hok
  clear hb hl hc hok hS
  go_enter Try.func48, Try.ntmps48
  go_wp2_with (go_at_call 55; refine (none_ar H.out).mono ?_; rintro e w' ⟨rfl, rfl⟩)
  obtain ⟨wa, hwa⟩ : ∃ wa, w.alloc (.cells #[.slice al A.ring.length capl, .int .u64 A.many, .slice av A.cells.length cap, .int .i64 A.most] 69) = wa := ⟨_, rfl⟩
  rw [hwa]
  have hka : Keeps Nothing w wa := hwa ▸ (Keeps.refl _ w).alloc _
  have hqa : Blk wa w.heap.size #[.slice al A.ring.length capl, .int .u64 A.many, .slice av A.cells.length cap, .int .i64 A.most] 69 := hwa ▸ Blk.new w _ _
  have hba := hka.blk HB.out id
  have hla := ownsRow_kept HL.out fun k hk => hka.block k (by obtain ⟨cs, hcs⟩ := ownsRow_blk HL.out hk; exact hcs.lt) id
  have hca := ownsRow_kept HC.out fun k hk => hka.block k (by obtain ⟨cs, hcs⟩ := ownsRow_blk HC.out hk; exact hcs.lt) id
  have c0 := hba.cell 0
  have c2 := hba.cell 2
  simp at c0 c2
  have HKA := Lib.hid hka
  have HQA := Lib.hid hqa
  have HLA := Lib.hid hla
  have HCA := Lib.hid hca
  have HBA := Lib.hid hba
  clear hwa hka hqa hla hca hba
  go_region_with (first
    | (go_at_call 87; refine (CloneU_ok _ A.cells wa.drew HCA.out (by omega)).mono ?_; rintro e w1 ⟨v1, rfl, ho1, hk1⟩; obtain ⟨a1, cap1, rfl, _, _⟩ := ownsRow_form ho1; have c0b := (hk1.blk HBA.out id).cell 0; simp at c0b; have HO1 := Lib.hid ho1; have HK1 := Lib.hid hk1; clear ho1 hk1)
    | (go_at_call 88; refine (CloneA_ok _ A.ring w1 (ownsRow_kept HLA.out fun k hk => HK1.out.block k (by obtain ⟨cs, hcs⟩ := ownsRow_blk HLA.out hk; exact hcs.lt) id) (by omega)).mono ?_; rintro e w2 ⟨v2, rfl, ho2, hk2⟩; obtain ⟨a2, cap2, rfl, _, _⟩ := ownsRow_form ho2; have hq2 := hk2.blk (HK1.out.blk HQA.out id) id; have q0 := hq2.cell 0; have q2 := hq2.cell 2; have f0 := hq2.frozen 0; have f2 := hq2.frozen 2; simp at q0 q2; have HO2 := Lib.hid ho2; have HK2 := Lib.hid hk2; have HQ2 := Lib.hid hq2; clear ho2 hk2 hq2))
  all_goals
    go_wp2
    go_ret
    obtain ⟨T, h1, h2, h3⟩ := copy_end (q := w.heap.size) (v1 := .slice a1 A.cells.length cap1) (v2 := .slice a2 A.ring.length cap2) rfl HOK.out HKA.out HQA.out.lt (show Keeps Nothing wa w1 from ⟨HK1.out.os, HK1.out.tape, HK1.out.output, HK1.out.size, HK1.out.block⟩) HK2.out HQ2.out HO1.out HO2.out
    exact ⟨_, T, rfl, h1, h2, h3⟩
end Go.Proofs.Ytejbeioiomjbpaa

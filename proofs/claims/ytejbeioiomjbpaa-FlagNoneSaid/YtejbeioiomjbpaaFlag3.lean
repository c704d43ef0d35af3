/-
  Layer 12: the table of steps.
-/
import Derived.Test.YtejbeioiomjbpaaFlag2
namespace Go.Proofs.Ytejbeioiomjbpaa
open Go.RowKit

@[go_sem] theorem run_makeMap_none {P : Program} (t : TypeId) (w : World) : (Instr.makeMap t none).run P w = .ok (.map (some w.heap.size)) (w.alloc (.map #[] 0)) := by
  simp [Instr.makeMap, go_sem]

def fnV (f : Nat) : Value := .func (.func f) #[] #[]
def byV (b : Nat) : Value := .func (.func 115) #[] #[.pointer (some ⟨b, 0, none⟩)]
/-- The table: five entries. -/
def stepMap (b1 b3 : Nat) : Array MapEntry :=
  #[⟨.int .i64 1, .agg #[fnV 108, byV b1], 0⟩, ⟨.int .i64 2, .agg #[fnV 109, fnV 112], 1⟩, ⟨.int .i64 3, .agg #[fnV 110, byV b3], 2⟩,
    ⟨.int .i64 4, .agg #[fnV 109, fnV 113], 3⟩, ⟨.int .i64 5, .agg #[fnV 110, fnV 114], 4⟩]

set_option maxRecDepth 100000 in
set_option maxHeartbeats 2000000 in
theorem steps_ok (w : World) : Calls Try.prog 102 #[] w fun e w' => ∃ r b1 b3, e = .returned (.map (some r)) ∧ w'.heap[r]? = some (.map (stepMap b1 b3) 5) ∧ Blk w' b1 #[.int .i64 1] 77 ∧ Blk w' b3 #[.int .i64 2] 77 ∧ Keeps Nothing w w' := by
  go_enter Try.func102, Try.ntmps102
  go_wp2_with first
    | (go_at_call 111; refine (by_ok _ _).mono ?_; rintro e w' ⟨rfl, rfl⟩)
  obtain ⟨r, hr⟩ : ∃ r, w.heap.size = r := ⟨_, rfl⟩
  have h0 : ((w.alloc (.map #[] 0)).alloc (.cells #[.int .i64 1] 77)).heap[r]? = some (.map #[] 0) := (Below.heap_alloc _ _ r (by rw [← hr]; simp)).trans (by rw [← hr]; exact World.alloc_heap_new w _)
  have hb1 : Blk ((w.alloc (.map #[] 0)).alloc (.cells #[.int .i64 1] 77)) (r + 1) #[.int .i64 1] 77 := Blk.new' _ _ (by simp [hr])
  have hk : Keeps Nothing w ((w.alloc (.map #[] 0)).alloc (.cells #[.int .i64 1] 77)) := ((Keeps.refl _ _).alloc _).alloc _
  have hsz : ((w.alloc (.map #[] 0)).alloc (.cells #[.int .i64 1] 77)).heap.size = r + 1 + 1 := by simp [hr]
  rw [hr]
  obtain ⟨W0, hW0⟩ : ∃ W0, (w.alloc (.map #[] 0)).alloc (.cells #[.int .i64 1] 77) = W0 := ⟨_, rfl⟩
  rw [hW0] at h0 hb1 hk hsz ⊢
  clear hW0
  rw [run_insert_new Try.underlying171 Try.underlying82 h0 rfl]
  have h1 : (W0.putObj r (.map #[⟨.int .i64 1, .agg #[fnV 108, byV (r + 1)], 0⟩] 1)).heap[r]? = some (.map #[⟨.int .i64 1, .agg #[fnV 108, byV (r + 1)], 0⟩] 1) := World.putObj_heap_same (by omega)
  replace hb1 := hb1.put (l := r) (by omega) (.map #[⟨.int .i64 1, .agg #[fnV 108, byV (r + 1)], 0⟩] 1)
  replace hk := hk.put r (.map #[⟨.int .i64 1, .agg #[fnV 108, byV (r + 1)], 0⟩] 1) (.inr (by omega))
  have hsz1 : (W0.putObj r (.map #[⟨.int .i64 1, .agg #[fnV 108, byV (r + 1)], 0⟩] 1)).heap.size = W0.heap.size := by simp [World.putObj]
  rw [hsz] at hsz1
  change Oper.upon _ _ _ _ _ ((Result.ok () (W0.putObj r (.map #[⟨.int .i64 1, .agg #[fnV 108, byV (r + 1)], 0⟩] 1))).andThen _)
  obtain ⟨W1, hW⟩ : ∃ W1, W0.putObj r (.map #[⟨.int .i64 1, .agg #[fnV 108, byV (r + 1)], 0⟩] 1) = W1 := ⟨_, rfl⟩
  rw [hW] at h1 hb1 hk hsz1 ⊢
  clear hW h0 hsz
  go_wp2
  have h0 := h1
  have hsz := hsz1
  clear h1 hsz1
  rw [run_insert_new Try.underlying171 Try.underlying82 h0 rfl]
  have h1 : (W1.putObj r (.map #[⟨.int .i64 1, .agg #[fnV 108, byV (r + 1)], 0⟩, ⟨.int .i64 2, .agg #[fnV 109, fnV 112], 1⟩] 2)).heap[r]? = some (.map #[⟨.int .i64 1, .agg #[fnV 108, byV (r + 1)], 0⟩, ⟨.int .i64 2, .agg #[fnV 109, fnV 112], 1⟩] 2) := World.putObj_heap_same (by omega)
  replace hb1 := hb1.put (l := r) (by omega) (.map #[⟨.int .i64 1, .agg #[fnV 108, byV (r + 1)], 0⟩, ⟨.int .i64 2, .agg #[fnV 109, fnV 112], 1⟩] 2)
  replace hk := hk.put r (.map #[⟨.int .i64 1, .agg #[fnV 108, byV (r + 1)], 0⟩, ⟨.int .i64 2, .agg #[fnV 109, fnV 112], 1⟩] 2) (.inr (by omega))
  have hsz1 : (W1.putObj r (.map #[⟨.int .i64 1, .agg #[fnV 108, byV (r + 1)], 0⟩, ⟨.int .i64 2, .agg #[fnV 109, fnV 112], 1⟩] 2)).heap.size = W1.heap.size := by simp [World.putObj]
  rw [hsz] at hsz1
  change Oper.upon _ _ _ _ _ ((Result.ok () (W1.putObj r (.map #[⟨.int .i64 1, .agg #[fnV 108, byV (r + 1)], 0⟩, ⟨.int .i64 2, .agg #[fnV 109, fnV 112], 1⟩] 2))).andThen _)
  obtain ⟨W2, hW⟩ : ∃ W2, W1.putObj r (.map #[⟨.int .i64 1, .agg #[fnV 108, byV (r + 1)], 0⟩, ⟨.int .i64 2, .agg #[fnV 109, fnV 112], 1⟩] 2) = W2 := ⟨_, rfl⟩
  rw [hW] at h1 hb1 hk hsz1 ⊢
  clear hW h0 hsz
  go_wp2_with first
    | (go_at_call 111; refine (by_ok _ _).mono ?_; rintro e w' ⟨rfl, rfl⟩)
  try rw [hsz1]
  have h0 := (Below.heap_alloc W2 (.cells #[.int .i64 2] 77) (k := r) (by omega)).trans h1
  replace hb1 := hb1.alloc (.cells #[.int .i64 2] 77)
  have hb3 : Blk (W2.alloc (.cells #[.int .i64 2] 77)) (r + 1 + 1) #[.int .i64 2] 77 := Blk.new' _ _ hsz1.symm
  replace hk := hk.alloc (.cells #[.int .i64 2] 77)
  have hsz : (W2.alloc (.cells #[.int .i64 2] 77)).heap.size = r + 1 + 1 + 1 := by simp [hsz1]
  obtain ⟨W2', hW2⟩ : ∃ W2', W2.alloc (.cells #[.int .i64 2] 77) = W2' := ⟨_, rfl⟩
  rw [hW2] at h0 hb1 hb3 hk hsz ⊢
  clear hW2 h1 hsz1
  rw [run_insert_new Try.underlying171 Try.underlying82 h0 rfl]
  have h1 : (W2'.putObj r (.map #[⟨.int .i64 1, .agg #[fnV 108, byV (r + 1)], 0⟩, ⟨.int .i64 2, .agg #[fnV 109, fnV 112], 1⟩, ⟨.int .i64 3, .agg #[fnV 110, byV (r + 1 + 1)], 2⟩] 3)).heap[r]? = some (.map #[⟨.int .i64 1, .agg #[fnV 108, byV (r + 1)], 0⟩, ⟨.int .i64 2, .agg #[fnV 109, fnV 112], 1⟩, ⟨.int .i64 3, .agg #[fnV 110, byV (r + 1 + 1)], 2⟩] 3) := World.putObj_heap_same (by omega)
  replace hb1 := hb1.put (l := r) (by omega) (.map #[⟨.int .i64 1, .agg #[fnV 108, byV (r + 1)], 0⟩, ⟨.int .i64 2, .agg #[fnV 109, fnV 112], 1⟩, ⟨.int .i64 3, .agg #[fnV 110, byV (r + 1 + 1)], 2⟩] 3)
  replace hb3 := hb3.put (l := r) (by omega) (.map #[⟨.int .i64 1, .agg #[fnV 108, byV (r + 1)], 0⟩, ⟨.int .i64 2, .agg #[fnV 109, fnV 112], 1⟩, ⟨.int .i64 3, .agg #[fnV 110, byV (r + 1 + 1)], 2⟩] 3)
  replace hk := hk.put r (.map #[⟨.int .i64 1, .agg #[fnV 108, byV (r + 1)], 0⟩, ⟨.int .i64 2, .agg #[fnV 109, fnV 112], 1⟩, ⟨.int .i64 3, .agg #[fnV 110, byV (r + 1 + 1)], 2⟩] 3) (.inr (by omega))
  have hsz1 : (W2'.putObj r (.map #[⟨.int .i64 1, .agg #[fnV 108, byV (r + 1)], 0⟩, ⟨.int .i64 2, .agg #[fnV 109, fnV 112], 1⟩, ⟨.int .i64 3, .agg #[fnV 110, byV (r + 1 + 1)], 2⟩] 3)).heap.size = W2'.heap.size := by simp [World.putObj]
  rw [hsz] at hsz1
  change Oper.upon _ _ _ _ _ ((Result.ok () (W2'.putObj r (.map #[⟨.int .i64 1, .agg #[fnV 108, byV (r + 1)], 0⟩, ⟨.int .i64 2, .agg #[fnV 109, fnV 112], 1⟩, ⟨.int .i64 3, .agg #[fnV 110, byV (r + 1 + 1)], 2⟩] 3))).andThen _)
  obtain ⟨W3, hW⟩ : ∃ W3, W2'.putObj r (.map #[⟨.int .i64 1, .agg #[fnV 108, byV (r + 1)], 0⟩, ⟨.int .i64 2, .agg #[fnV 109, fnV 112], 1⟩, ⟨.int .i64 3, .agg #[fnV 110, byV (r + 1 + 1)], 2⟩] 3) = W3 := ⟨_, rfl⟩
  rw [hW] at h1 hb1 hk hsz1 hb3 ⊢
  clear hW h0 hsz
  go_wp2
  have h0 := h1
  have hsz := hsz1
  clear h1 hsz1
  rw [run_insert_new Try.underlying171 Try.underlying82 h0 rfl]
  have h1 : (W3.putObj r (.map #[⟨.int .i64 1, .agg #[fnV 108, byV (r + 1)], 0⟩, ⟨.int .i64 2, .agg #[fnV 109, fnV 112], 1⟩, ⟨.int .i64 3, .agg #[fnV 110, byV (r + 1 + 1)], 2⟩, ⟨.int .i64 4, .agg #[fnV 109, fnV 113], 3⟩] 4)).heap[r]? = some (.map #[⟨.int .i64 1, .agg #[fnV 108, byV (r + 1)], 0⟩, ⟨.int .i64 2, .agg #[fnV 109, fnV 112], 1⟩, ⟨.int .i64 3, .agg #[fnV 110, byV (r + 1 + 1)], 2⟩, ⟨.int .i64 4, .agg #[fnV 109, fnV 113], 3⟩] 4) := World.putObj_heap_same (by omega)
  replace hb1 := hb1.put (l := r) (by omega) (.map #[⟨.int .i64 1, .agg #[fnV 108, byV (r + 1)], 0⟩, ⟨.int .i64 2, .agg #[fnV 109, fnV 112], 1⟩, ⟨.int .i64 3, .agg #[fnV 110, byV (r + 1 + 1)], 2⟩, ⟨.int .i64 4, .agg #[fnV 109, fnV 113], 3⟩] 4)
  replace hb3 := hb3.put (l := r) (by omega) (.map #[⟨.int .i64 1, .agg #[fnV 108, byV (r + 1)], 0⟩, ⟨.int .i64 2, .agg #[fnV 109, fnV 112], 1⟩, ⟨.int .i64 3, .agg #[fnV 110, byV (r + 1 + 1)], 2⟩, ⟨.int .i64 4, .agg #[fnV 109, fnV 113], 3⟩] 4)
  replace hk := hk.put r (.map #[⟨.int .i64 1, .agg #[fnV 108, byV (r + 1)], 0⟩, ⟨.int .i64 2, .agg #[fnV 109, fnV 112], 1⟩, ⟨.int .i64 3, .agg #[fnV 110, byV (r + 1 + 1)], 2⟩, ⟨.int .i64 4, .agg #[fnV 109, fnV 113], 3⟩] 4) (.inr (by omega))
  have hsz1 : (W3.putObj r (.map #[⟨.int .i64 1, .agg #[fnV 108, byV (r + 1)], 0⟩, ⟨.int .i64 2, .agg #[fnV 109, fnV 112], 1⟩, ⟨.int .i64 3, .agg #[fnV 110, byV (r + 1 + 1)], 2⟩, ⟨.int .i64 4, .agg #[fnV 109, fnV 113], 3⟩] 4)).heap.size = W3.heap.size := by simp [World.putObj]
  rw [hsz] at hsz1
  change Oper.upon _ _ _ _ _ ((Result.ok () (W3.putObj r (.map #[⟨.int .i64 1, .agg #[fnV 108, byV (r + 1)], 0⟩, ⟨.int .i64 2, .agg #[fnV 109, fnV 112], 1⟩, ⟨.int .i64 3, .agg #[fnV 110, byV (r + 1 + 1)], 2⟩, ⟨.int .i64 4, .agg #[fnV 109, fnV 113], 3⟩] 4))).andThen _)
  obtain ⟨W4, hW⟩ : ∃ W4, W3.putObj r (.map #[⟨.int .i64 1, .agg #[fnV 108, byV (r + 1)], 0⟩, ⟨.int .i64 2, .agg #[fnV 109, fnV 112], 1⟩, ⟨.int .i64 3, .agg #[fnV 110, byV (r + 1 + 1)], 2⟩, ⟨.int .i64 4, .agg #[fnV 109, fnV 113], 3⟩] 4) = W4 := ⟨_, rfl⟩
  rw [hW] at h1 hb1 hk hsz1 hb3 ⊢
  clear hW h0 hsz
  go_wp2
  have h0 := h1
  have hsz := hsz1
  clear h1 hsz1
  rw [run_insert_new Try.underlying171 Try.underlying82 h0 rfl]
  have h1 : (W4.putObj r (.map #[⟨.int .i64 1, .agg #[fnV 108, byV (r + 1)], 0⟩, ⟨.int .i64 2, .agg #[fnV 109, fnV 112], 1⟩, ⟨.int .i64 3, .agg #[fnV 110, byV (r + 1 + 1)], 2⟩, ⟨.int .i64 4, .agg #[fnV 109, fnV 113], 3⟩, ⟨.int .i64 5, .agg #[fnV 110, fnV 114], 4⟩] 5)).heap[r]? = some (.map #[⟨.int .i64 1, .agg #[fnV 108, byV (r + 1)], 0⟩, ⟨.int .i64 2, .agg #[fnV 109, fnV 112], 1⟩, ⟨.int .i64 3, .agg #[fnV 110, byV (r + 1 + 1)], 2⟩, ⟨.int .i64 4, .agg #[fnV 109, fnV 113], 3⟩, ⟨.int .i64 5, .agg #[fnV 110, fnV 114], 4⟩] 5) := World.putObj_heap_same (by omega)
  replace hb1 := hb1.put (l := r) (by omega) (.map #[⟨.int .i64 1, .agg #[fnV 108, byV (r + 1)], 0⟩, ⟨.int .i64 2, .agg #[fnV 109, fnV 112], 1⟩, ⟨.int .i64 3, .agg #[fnV 110, byV (r + 1 + 1)], 2⟩, ⟨.int .i64 4, .agg #[fnV 109, fnV 113], 3⟩, ⟨.int .i64 5, .agg #[fnV 110, fnV 114], 4⟩] 5)
  replace hb3 := hb3.put (l := r) (by omega) (.map #[⟨.int .i64 1, .agg #[fnV 108, byV (r + 1)], 0⟩, ⟨.int .i64 2, .agg #[fnV 109, fnV 112], 1⟩, ⟨.int .i64 3, .agg #[fnV 110, byV (r + 1 + 1)], 2⟩, ⟨.int .i64 4, .agg #[fnV 109, fnV 113], 3⟩, ⟨.int .i64 5, .agg #[fnV 110, fnV 114], 4⟩] 5)
  replace hk := hk.put r (.map #[⟨.int .i64 1, .agg #[fnV 108, byV (r + 1)], 0⟩, ⟨.int .i64 2, .agg #[fnV 109, fnV 112], 1⟩, ⟨.int .i64 3, .agg #[fnV 110, byV (r + 1 + 1)], 2⟩, ⟨.int .i64 4, .agg #[fnV 109, fnV 113], 3⟩, ⟨.int .i64 5, .agg #[fnV 110, fnV 114], 4⟩] 5) (.inr (by omega))
  have hsz1 : (W4.putObj r (.map #[⟨.int .i64 1, .agg #[fnV 108, byV (r + 1)], 0⟩, ⟨.int .i64 2, .agg #[fnV 109, fnV 112], 1⟩, ⟨.int .i64 3, .agg #[fnV 110, byV (r + 1 + 1)], 2⟩, ⟨.int .i64 4, .agg #[fnV 109, fnV 113], 3⟩, ⟨.int .i64 5, .agg #[fnV 110, fnV 114], 4⟩] 5)).heap.size = W4.heap.size := by simp [World.putObj]
  rw [hsz] at hsz1
  change Oper.upon _ _ _ _ _ ((Result.ok () (W4.putObj r (.map #[⟨.int .i64 1, .agg #[fnV 108, byV (r + 1)], 0⟩, ⟨.int .i64 2, .agg #[fnV 109, fnV 112], 1⟩, ⟨.int .i64 3, .agg #[fnV 110, byV (r + 1 + 1)], 2⟩, ⟨.int .i64 4, .agg #[fnV 109, fnV 113], 3⟩, ⟨.int .i64 5, .agg #[fnV 110, fnV 114], 4⟩] 5))).andThen _)
  obtain ⟨W5, hW⟩ : ∃ W5, W4.putObj r (.map #[⟨.int .i64 1, .agg #[fnV 108, byV (r + 1)], 0⟩, ⟨.int .i64 2, .agg #[fnV 109, fnV 112], 1⟩, ⟨.int .i64 3, .agg #[fnV 110, byV (r + 1 + 1)], 2⟩, ⟨.int .i64 4, .agg #[fnV 109, fnV 113], 3⟩, ⟨.int .i64 5, .agg #[fnV 110, fnV 114], 4⟩] 5) = W5 := ⟨_, rfl⟩
  rw [hW] at h1 hb1 hk hsz1 hb3 ⊢
  clear hW h0 hsz
  go_wp2
  go_ret
  exact ⟨r, r + 1, r + 1 + 1, rfl, h1, hb1, hb3, hk⟩


end Go.Proofs.Ytejbeioiomjbpaa

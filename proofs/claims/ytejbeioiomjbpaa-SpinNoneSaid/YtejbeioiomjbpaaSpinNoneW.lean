/-
  SpinNone, walked.
-/
import Derived.Test.YtejbeioiomjbpaaSpinWorks
namespace Go.Proofs.Ytejbeioiomjbpaa
open Go.RowKit Go.Shelf
attribute [local go_sem] Oper.semAt_some

set_option maxHeartbeats 1000000 in
theorem States_none (v l : Value) (w : World) (h : NoArena w v) (hv : ∃ a, v = .pointer a) :
    Calls Try.prog 33 #[v, l] w fun e w' => e = .returned (.tuple #[.slice none 0 0, .int .i64 1]) ∧ Keeps Nothing w w' := by
  have H := Lib.hid h
  clear h
  obtain ⟨a, rfl⟩ := hv
  go_enter Try.func33, Try.ntmps33
  go_wp2_with (go_at_call 48; refine (Copy_none _ _ H.out).mono ?_; rintro e w1 ⟨rfl, hk⟩)
  go_ret2
  exact ⟨rfl, hk⟩

theorem tried_none (k : Int) : tried none k = (none, 0, false, 1) := rfl
theorem looked_none (k : Int) : looked none k = (none, 0, false, 1) := rfl
theorem freed_none (k : Int) : freed none k = (none, 0, false, 1) := rfl
theorem freedErr_none (k : Int) : freedErr none k = 1 := rfl
theorem triesL_none (k : Int) (n : Nat) : triesL none k n = ([], none) := by cases n <;> rfl
theorem Few.none (n : Nat) : Few none n := fun _ e => by cases e

set_option maxRecDepth 100000 in
set_option maxHeartbeats 2000000 in
theorem SpinNone_walk (k most : Int) (zero : Bool) (w : World) (wk : (Lit.int .i64 k).wf = true) (wm : (Lit.int .i64 most).wf = true) :
    Calls Try.prog 7 #[.int .i64 k, .int .i64 most, .bool zero] w fun e w' => e = .returned (.bool true) ∧ Keeps Nothing w w' := by
  have hmost : most ≤ 9223372036854775807 := by
    simp [Lit.wf, IntKind.min, IntKind.max, IntKind.bits, IntKind.signed] at wm
    omega
  have HMO := Lib.hid hmost
  clear hmost wk wm
  obtain ⟨b0, hb0⟩ : ∃ b0, w.heap.size = b0 := ⟨_, rfl⟩
  cases zero with
  | false =>
    refine calls_of_wpN Try.func7 rfl ?_
    simp only [Try.ntmps7, List.size_toArray, List.length_cons, List.length_nil, Nat.reduceAdd, Nat.reduceSub, Array.replicate_succ, Array.replicate_zero, List.push_toArray, List.append_toArray, List.nil_append, List.cons_append]
    have hs : stay (AtMem (.pointer none)) w [] [(w.heap.size, .cells #[.bool false] 4 (0, 0))] none [] (w.alloc (.cells #[.bool false] 4)) :=
      stay.first (atMem_framed _) ⟨.inl rfl, rfl⟩ (Keeps.refl _ _) (by simp)
    rw [hb0] at hs
    go_wp2_with first
      | (go_at_call 15; have C := spinNew_any (.pointer none) none _ _ hs.mem; rw [show allot none 1 = (none, 0, 1) from rfl] at C; refine (stay_call hs C).mono ?_; clear C; rintro e w2 ⟨rfl, S2, hs2⟩; replace hs := hs2; clear hs2)
      | (go_at_call 18; have C := Try_any (.pointer none) none _ k _ hs.mem (Few.none _) ⟨_, rfl⟩; rw [tried_none] at C; refine (stay_call hs C).mono ?_; clear C; rintro e w2 ⟨rfl, S2, hs2⟩; replace hs := hs2; clear hs2)
      | (go_at_call 19; have C := Held_any (.pointer none) none _ k _ hs.mem (Few.none _) ⟨_, rfl⟩; rw [heldOf_eq, looked_none] at C; refine (stay_call hs C).mono ?_; clear C; rintro e w2 ⟨rfl, S2, hs2⟩; replace hs := hs2; clear hs2)
      | (go_at_call 33; have h5 := hs.keep (atMem_framed _) ((Keeps.refl _ _).alloc (.cells #[.int .i64 k, .int .i64 0] 3)); refine (stay_kept (atMem_framed _) h5 (States_none (.pointer none) _ _ h5.mem.1 ⟨_, rfl⟩)).mono ?_; rintro e w2 ⟨rfl, hs2⟩; replace hs := hs2; clear hs2 h5)
      | (go_at_call 34; refine (Tries_stay hs).mono ?_; rintro e w2 ⟨n, rfl, hs2⟩; replace hs := hs2; clear hs2)
    have hq := Tries1_seq none k most HMO.out n (n + 1) (n + 1 + 1) none (Few.none _)
    rw [triesL_none] at hq
    refine wp_range_seq (atMem_framed (.pointer none)) hq rfl (enters_of Try.func70 (by kernel_rfl) rfl) (fun _ _ => rfl)
      (inner (base (AtMem (.pointer none)) w []) _) (fun _ _ _ _ _ _ => False) (inner_rides base_rides _) (fun _ => ⟨fun h => h.elim, fun h => h.elim⟩)
      (fun h => ⟨h.2.1 (n, _) (by simp), h.2.1 (n + 1, _) (by simp), h.2.1 (n + 1 + 1, _) (by simp)⟩) _ (hs.to_loop [])
      (fun a i b => { tmps := (a.tmps.setIfInBounds 51 (.int .i64 i)).setIfInBounds 52 (.bool b), defers := [] }) ?assign ?body ?done ?stop
    case assign =>
      intro l2 m i b K W4 hK
      gi_wp2
      exact hK
    case body =>
      intro l2 m x S4 U4 pre b W4 hpre hj
      simp at hpre
    case done =>
      intro S4 U4 Wy hj hD hDU hDS
      have hs := stay.of_loop hj hD hDU hDS
      clear hj hD hDU hDS
      obtain ⟨D1, hD1⟩ : ∃ D1, w2.heap.size = D1 := ⟨_, rfl⟩
      rw [hD1] at hs ⊢
      go_wp2_with first
        | (go_at_call 16; refine (num03_ok _ _).mono ?_; rintro e w' ⟨rfl, rfl⟩)
        | (go_at_call 17; have C := Free_any (.pointer none) none _ k _ hs.mem (Few.none _); rw [freedErr_none, freed_none] at C; refine (stay_call hs C).mono ?_; clear C; rintro e w2 ⟨rfl, S2, hs2⟩; replace hs := hs2; clear hs2)
        | (go_at_call 13; refine (stay_kept (atMem_framed _) hs (works03_ok _)).mono ?_; rintro e w2 ⟨rfl, hs2⟩; replace hs := hs2; clear hs2; have k0 := hs.blk (b := b0) (cs := #[.bool false]) (e := 4) (by simp); have cr := k0.cell 0; have fr := k0.frozen 0; simp at cr; clear k0)
      have kb : Blk w2 b0 #[.bool false] 4 := hs.blk (by simp)
      have kb2 := kb.set 0 (.bool true)
      have k1 : w2.heap[D1]? = some (.deferred (some [])) := hs.at (by simp)
      have n1 := kb.ne_obj k1 rfl
      have hr := (kb2.shut [D1] (by simpa using n1)).cell 0
      simp at hr
      refine bodyN_ret (v := .bool true) [D1] rfl ?_ (by simp) (by simp [results, Try.results7, go_sem, hr]) ⟨rfl, ?_⟩
      · simp only [List.mem_cons, List.not_mem_nil, or_false]
        rintro D rfl
        exact (heap_setCell_other w2 ⟨b0, 0, none⟩ _ _ (Ne.symm n1)).trans k1
      · refine Keeps.shut (hs.nothing.set _ _ (.inr (by rw [hb0]; exact Nat.le_refl _))) _ ?_
        simp only [List.mem_cons, List.not_mem_nil, or_false]
        rintro D rfl
        exact .inr (hs.own_new (by simp [own]))
    case stop =>
      intro c pre x S3 U3 W4 _ h
      exact h.elim
  | true =>
    refine calls_of_wpN Try.func7 rfl ?_
    simp only [Try.ntmps7, List.size_toArray, List.length_cons, List.length_nil, Nat.reduceAdd, Nat.reduceSub, Array.replicate_succ, Array.replicate_zero, List.push_toArray, List.append_toArray, List.nil_append, List.cons_append]
    obtain ⟨q, hq⟩ : ∃ q, w.heap.size + 1 = q := ⟨_, rfl⟩
    have hs : stay (AtMem (.pointer (some ⟨q, 0, none⟩))) w [] [(w.heap.size, .cells #[.bool false] 4 (0, 0))] none [q] ((w.alloc (.cells #[.bool false] 4)).alloc (.cells #[.slice none 0 0, .int .u64 0, .slice none 0 0, .int .i64 0] 69)) :=
      stay.first (atMem_framed _) ⟨.inr ⟨q, _, _, _, rfl, Blk.new' _ _ (by simp [hq])⟩, rfl⟩ ((Keeps.refl _ _).alloc _) (by simp [hq])
    rw [hb0] at hs hq
    go_wp2_with first
      | (go_at_call 15; have C := spinNew_any (.pointer (some ⟨q, 0, none⟩)) none _ _ hs.mem; rw [show allot none 1 = (none, 0, 1) from rfl] at C; refine (stay_call hs C).mono ?_; clear C; rintro e w2 ⟨rfl, S2, hs2⟩; replace hs := hs2; clear hs2)
      | (go_at_call 18; have C := Try_any (.pointer (some ⟨q, 0, none⟩)) none _ k _ hs.mem (Few.none _) ⟨_, rfl⟩; rw [tried_none] at C; refine (stay_call hs C).mono ?_; clear C; rintro e w2 ⟨rfl, S2, hs2⟩; replace hs := hs2; clear hs2)
      | (go_at_call 19; have C := Held_any (.pointer (some ⟨q, 0, none⟩)) none _ k _ hs.mem (Few.none _) ⟨_, rfl⟩; rw [heldOf_eq, looked_none] at C; refine (stay_call hs C).mono ?_; clear C; rintro e w2 ⟨rfl, S2, hs2⟩; replace hs := hs2; clear hs2)
      | (go_at_call 33; have h5 := hs.keep (atMem_framed _) ((Keeps.refl _ _).alloc (.cells #[.int .i64 k, .int .i64 0] 3)); refine (stay_kept (atMem_framed _) h5 (States_none (.pointer (some ⟨q, 0, none⟩)) _ _ h5.mem.1 ⟨_, rfl⟩)).mono ?_; rintro e w2 ⟨rfl, hs2⟩; replace hs := hs2; clear hs2 h5)
      | (go_at_call 34; refine (Tries_stay hs).mono ?_; rintro e w2 ⟨n, rfl, hs2⟩; replace hs := hs2; clear hs2)
    have hq := Tries1_seq (some ⟨q, 0, none⟩) k most HMO.out n (n + 1) (n + 1 + 1) none (Few.none _)
    rw [triesL_none] at hq
    refine wp_range_seq (atMem_framed (.pointer (some ⟨q, 0, none⟩))) hq rfl (enters_of Try.func70 (by kernel_rfl) rfl) (fun _ _ => rfl)
      (inner (base (AtMem (.pointer (some ⟨q, 0, none⟩))) w []) _) (fun _ _ _ _ _ _ => False) (inner_rides base_rides _) (fun _ => ⟨fun h => h.elim, fun h => h.elim⟩)
      (fun h => ⟨h.2.1 (n, _) (by simp), h.2.1 (n + 1, _) (by simp), h.2.1 (n + 1 + 1, _) (by simp)⟩) _ (hs.to_loop [])
      (fun a i b => { tmps := (a.tmps.setIfInBounds 51 (.int .i64 i)).setIfInBounds 52 (.bool b), defers := [] }) ?assign ?body ?done ?stop
    case assign =>
      intro l2 m i b K W4 hK
      gi_wp2
      exact hK
    case body =>
      intro l2 m x S4 U4 pre b W4 hpre hj
      simp at hpre
    case done =>
      intro S4 U4 Wy hj hD hDU hDS
      have hs := stay.of_loop hj hD hDU hDS
      clear hj hD hDU hDS
      obtain ⟨D1, hD1⟩ : ∃ D1, w2.heap.size = D1 := ⟨_, rfl⟩
      rw [hD1] at hs ⊢
      go_wp2_with first
        | (go_at_call 16; refine (num03_ok _ _).mono ?_; rintro e w' ⟨rfl, rfl⟩)
        | (go_at_call 17; have C := Free_any (.pointer (some ⟨q, 0, none⟩)) none _ k _ hs.mem (Few.none _); rw [freedErr_none, freed_none] at C; refine (stay_call hs C).mono ?_; clear C; rintro e w2 ⟨rfl, S2, hs2⟩; replace hs := hs2; clear hs2)
        | (go_at_call 13; refine (stay_kept (atMem_framed _) hs (works03_ok _)).mono ?_; rintro e w2 ⟨rfl, hs2⟩; replace hs := hs2; clear hs2; have k0 := hs.blk (b := b0) (cs := #[.bool false]) (e := 4) (by simp); have cr := k0.cell 0; have fr := k0.frozen 0; simp at cr; clear k0)
      have kb : Blk w2 b0 #[.bool false] 4 := hs.blk (by simp)
      have kb2 := kb.set 0 (.bool true)
      have k1 : w2.heap[D1]? = some (.deferred (some [])) := hs.at (by simp)
      have n1 := kb.ne_obj k1 rfl
      have hr := (kb2.shut [D1] (by simpa using n1)).cell 0
      simp at hr
      refine bodyN_ret (v := .bool true) [D1] rfl ?_ (by simp) (by simp [results, Try.results7, go_sem, hr]) ⟨rfl, ?_⟩
      · simp only [List.mem_cons, List.not_mem_nil, or_false]
        rintro D rfl
        exact (heap_setCell_other w2 ⟨b0, 0, none⟩ _ _ (Ne.symm n1)).trans k1
      · refine Keeps.shut (hs.nothing.set _ _ (.inr (by rw [hb0]; exact Nat.le_refl _))) _ ?_
        simp only [List.mem_cons, List.not_mem_nil, or_false]
        rintro D rfl
        exact .inr (hs.own_new (by simp [own]))
    case stop =>
      intro c pre x S3 U3 W4 _ h
      exact h.elim

end Go.Proofs.Ytejbeioiomjbpaa

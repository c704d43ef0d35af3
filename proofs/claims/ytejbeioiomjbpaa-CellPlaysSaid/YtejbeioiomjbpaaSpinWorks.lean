/-
  Layer 3: the chapter's rows.
-/
import Derived.Test.YtejbeioiomjbpaaSpin3
import Derived.Test.YtejbeioiomjbpaaStay
namespace Go.Proofs.Ytejbeioiomjbpaa
open Go.RowKit Go.Shelf
attribute [local go_sem] Oper.semAt_some

@[go_sem] theorem eql_seqIB (f : Fn) (r cs : Array Value) (w : World) : (binOp .eql 74 (.func f r cs) .nilFunc).run Try.prog w = .ok (.bool false) w :=
  run_eql_func_nil w _ f r cs Try.underlying74

theorem num03_ok (k : Int) (w : World) : Calls Try.prog 16 #[.int .i64 k] w fun e w' => e = .returned (.int .i64 k) ∧ w = w' := by
  go_enter Try.func16, Try.ntmps16
  go_wp2
  go_ret
  exact ⟨rfl, rfl⟩

theorem Few.of {X : Option Ar} {n : Nat} (h : X.elim 0 Ar.many + n < 4611686018427387904) : Few X n := fun A e => by rw [e] at h; exact h

namespace W3
def X0 : Option Ar := (newOf 4).1
def X1 := (allot X0 1).1
def X2 := (looked X1 0).1
def X3 := (tried X2 0).1
def X4 := (tried X3 0).1
def X5 := (looked X4 0).1
def X6 := (triesL X5 0 3).2
def X7 := (freed X6 0).1
def X8 := (freed X7 0).1
def X9 := (looked X8 0).1
def X10 := (triesL X9 0 3).2
def X11 := (tried X10 9).1
theorem n0 : X0 = none → False := fun h => nomatch h
theorem e0 : newOf 4 = (X0, 0) := rfl
theorem e1 : allot X0 1 = (X1, 0, 0) := rfl
theorem e2 : looked X1 0 = (X2, 0, true, 0) := rfl
theorem e3 : tried X2 0 = (X3, 0, true, 0) := rfl
theorem e4 : tried X3 0 = (X4, 1, false, 0) := rfl
theorem e5 : looked X4 0 = (X5, 1, true, 0) := rfl
theorem e6 : triesL X5 0 3 = ([false, false, false], X6) := rfl
theorem e7 : freed X6 0 = (X7, 1, true, 0) := rfl
theorem e8 : freed X7 0 = (X8, 0, false, 0) := rfl
theorem e7' : freedErr X6 0 = 0 := rfl
theorem e8' : freedErr X7 0 = 30 := rfl
theorem e9 : looked X8 0 = (X9, 0, true, 0) := rfl
theorem e10 : triesL X9 0 3 = ([true], X10) := rfl
theorem e11 : tried X10 9 = (X11, 0, false, 4) := rfl
theorem w1 : Few X1 20 := fun A e => by unfold X1 at e; cases e; decide
theorem w2 : Few X2 20 := fun A e => by unfold X2 at e; cases e; decide
theorem w3 : Few X3 20 := fun A e => by unfold X3 at e; cases e; decide
theorem w4 : Few X4 20 := fun A e => by unfold X4 at e; cases e; decide
theorem w5 : Few X5 20 := fun A e => by unfold X5 at e; cases e; decide
theorem w6 : Few X6 20 := fun A e => by unfold X6 at e; cases e; decide
theorem w7 : Few X7 20 := fun A e => by unfold X7 at e; cases e; decide
theorem w8 : Few X8 20 := fun A e => by unfold X8 at e; cases e; decide
theorem w9 : Few X9 20 := fun A e => by unfold X9 at e; cases e; decide
theorem w10 : Few X10 20 := fun A e => by unfold X10 at e; cases e; decide
attribute [irreducible] X0 X1 X2 X3 X4 X5 X6 X7 X8 X9 X10 X11
end W3

theorem heldOf_eq (X : Option Ar) (k : Int) : heldOf X k = ((looked X k).2.1 != 0) := rfl

theorem Tries_stay {w0 : World} {S0 : List Nat} {F : List (Nat × Obj)} {X : Option Ar} {S : List Nat} {W : World} {a : Option Addr} {k most : Int} (h : stay (AtMem (.pointer a)) w0 S0 F X S W) :
    Calls Try.prog 34 #[.pointer a, .int .i64 k, .int .i64 most] W fun e W' => ∃ n, e = .returned (.func (.func 70) #[] #[.pointer (some ⟨n, 0, none⟩), .pointer (some ⟨n + 1, 0, none⟩), .pointer (some ⟨n + 1 + 1, 0, none⟩)]) ∧
      stay (AtMem (.pointer a)) w0 S0 ((n + 1 + 1, .cells #[.int .i64 most] 3 (0, 0)) :: (n + 1, .cells #[.int .i64 k] 3 (0, 0)) :: (n, .cells #[.pointer a] 24 (0, 0)) :: F) X S W' := by
  refine (Tries_ok a k most W).mono ?_
  rintro e w' ⟨rfl, rfl⟩
  refine ⟨W.heap.size, rfl, ?_⟩
  have h1 := h.box (atMem_framed _) (.cells #[.pointer a] 24)
  have h2 := h1.box (atMem_framed _) (.cells #[.int .i64 k] 3)
  have h3 := h2.box (atMem_framed _) (.cells #[.int .i64 most] 3)
  simpa using h3

set_option maxRecDepth 100000 in
set_option maxHeartbeats 2000000 in
theorem works03_ok (w : World) : Calls Try.prog 13 #[] w fun e w' => e = .returned (.bool true) ∧ Keeps Nothing w w' := by
  refine calls_of_wpN Try.func13 rfl ?_
  simp only [Try.ntmps13, List.size_toArray, List.length_cons, List.length_nil, Nat.reduceAdd, Nat.reduceSub, Array.replicate_succ, Array.replicate_zero, List.push_toArray, List.append_toArray, List.nil_append, List.cons_append]
  go_wp2_with first
    | (go_at_call 14; have C := New_any 4 (w.alloc (.cells #[.bool false] 4)); rw [W3.e0] at C; refine C.mono ?_; clear C; rintro e w1 ⟨v, S, rfl, hm, hS, hk, hv | ⟨-, q, rfl⟩⟩; exact absurd hv.1 W3.n0; have hs := stay.first (M := AtMem (.pointer (some ⟨q, 0, none⟩))) (atMem_framed _) hm hk hS; have hv : ∃ b, Value.pointer (some ⟨q, 0, none⟩) = .pointer b := ⟨_, rfl⟩; clear hm hk hS)
    | (go_at_call 15; have C := spinNew_any (.pointer (some ⟨q, 0, none⟩)) W3.X0 _ _ hs.mem; rw [W3.e1] at C; refine (stay_call hs C).mono ?_; clear C; rintro e w2 ⟨rfl, S2, hs2⟩; replace hs := hs2; clear hs2)
    | (go_at_call 19; have C := Held_any (.pointer (some ⟨q, 0, none⟩)) W3.X1 _ 0 _ hs.mem (W3.w1.le (by omega)) hv; rw [heldOf_eq, W3.e2] at C; refine (stay_call hs C).mono ?_; clear C; rintro e w2 ⟨rfl, S2, hs2⟩; replace hs := hs2; clear hs2)
    | (go_at_call 18; have C := Try_any (.pointer (some ⟨q, 0, none⟩)) W3.X2 _ 0 _ hs.mem (W3.w2.le (by omega)) hv; rw [W3.e3] at C; refine (stay_call hs C).mono ?_; clear C; rintro e w2 ⟨rfl, S2, hs2⟩; replace hs := hs2; clear hs2)
    | (go_at_call 18; have C := Try_any (.pointer (some ⟨q, 0, none⟩)) W3.X3 _ 0 _ hs.mem (W3.w3.le (by omega)) hv; rw [W3.e4] at C; refine (stay_call hs C).mono ?_; clear C; rintro e w2 ⟨rfl, S2, hs2⟩; replace hs := hs2; clear hs2)
    | (go_at_call 19; have C := Held_any (.pointer (some ⟨q, 0, none⟩)) W3.X4 _ 0 _ hs.mem (W3.w4.le (by omega)) hv; rw [heldOf_eq, W3.e5] at C; refine (stay_call hs C).mono ?_; clear C; rintro e w2 ⟨rfl, S2, hs2⟩; replace hs := hs2; clear hs2)
    | (go_at_call 34; refine (Tries_stay hs).mono ?_; rintro e w2 ⟨n, rfl, hs2⟩; replace hs := hs2; clear hs2)
  have hb := hs.box (atMem_framed _) (.cells #[.int .i64 0] 3)
  obtain ⟨bn, hbn⟩ : ∃ bn, w2.heap.size = bn := ⟨_, rfl⟩
  obtain ⟨b0, hb0⟩ : ∃ b0, w.heap.size = b0 := ⟨_, rfl⟩
  obtain ⟨w3, hw3⟩ : ∃ w3, w2.alloc (.cells #[.int .i64 0] 3) = w3 := ⟨_, rfl⟩
  rw [hw3, hbn, hb0] at hb
  rw [hw3]
  rw [hbn, hb0]
  have hne : bn ∉ own [(n + 1 + 1, .cells #[.int .i64 3] 3 (0, 0)), (n + 1, .cells #[.int .i64 0] 3 (0, 0)), (n, .cells #[.pointer (some ⟨q, 0, none⟩)] 24 (0, 0)), (b0, .cells #[.bool false] 4 (0, 0))] := fun h => by
    have := hs.lie.lt (by rw [hb0]; exact h)
    omega
  clear hw3 hs
  let F : List Bool → List (Nat × Obj) := fun pre => [(bn, .cells #[.int .i64 (pre.length : Nat)] 3 (0, 0)), (n + 1 + 1, .cells #[.int .i64 3] 3 (0, 0)), (n + 1, .cells #[.int .i64 0] 3 (0, 0)), (n, .cells #[.pointer (some ⟨q, 0, none⟩)] 24 (0, 0)), (b0, .cells #[.bool false] 4 (0, 0))]
  have hq := Tries1_seq (some ⟨q, 0, none⟩) 0 3 (by omega) n (n + 1) (n + 1 + 1) W3.X5 (W3.w5.le (by decide))
  rw [show (3 : Int).toNat = 3 from rfl, W3.e6] at hq
  refine wp_range_seq (atMem_framed (.pointer (some ⟨q, 0, none⟩))) hq rfl (enters_of Try.func70 (by kernel_rfl) rfl) (fun _ _ => rfl)
    (fun X S U pre W => inner (base (AtMem (.pointer (some ⟨q, 0, none⟩))) w []) (F pre) X S U pre W) (fun _ _ _ _ _ _ => False) ⟨fun h => (inner_rides base_rides _).mem h, fun h hm ht => (inner_rides base_rides _).turn h hm ht⟩ (fun _ => ⟨fun h => h.elim, fun h => h.elim⟩)
    (fun h => ⟨h.2.1 (n, _) (by simp [F]), h.2.1 (n + 1, _) (by simp [F]), h.2.1 (n + 1 + 1, _) (by simp [F])⟩) _ (hb.to_loop [])
    (fun a i b => { tmps := (((a.tmps.setIfInBounds 65 (.int .i64 i)).setIfInBounds 66 (.bool b)).setIfInBounds 15 (.int .i64 i)).setIfInBounds 16 (.bool b), defers := [] }) ?assign ?body ?done ?stop
  case assign =>
    intro l2 m i b K W3 hK
    gi_wp2
    exact hK
  case body =>
    intro l2 m x S3 U3 pre b W3 hpre hj
    have hlen := hpre.length_le
    simp only [List.length_append, List.length_cons, List.length_nil] at hlen
    have hbf : b = false := by
      have hmem : b ∈ [false, false, false] := hpre.subset (by simp)
      simpa using hmem
    subst hbf
    have hbk : Blk W3 bn #[.int .i64 (pre.length : Nat)] 3 := hj.2.1 (bn, _) (by simp [F])
    have hc := hbk.cell 0
    have hf := hbk.frozen 0
    simp at hc
    gi_wp2
    exact inner_set1 (pre' := pre ++ [false]) (atMem_framed _) hj hne |>.imp (fun h => by simpa [F] using h) id
  case done =>
    intro S3 U3 Wz hj hD hDU hDS
    have hs := stay.of_loop hj hD hDU hDS
    clear hj hD hDU hDS
    obtain ⟨D1, hD1⟩ : ∃ D1, w3.heap.size = D1 := ⟨_, rfl⟩
    rw [hD1] at hs ⊢
    go_wp2_with first
    | (go_at_call 17; have C := Free_any (.pointer (some ⟨q, 0, none⟩)) W3.X6 _ 0 _ hs.mem (W3.w6.le (by omega)); rw [W3.e7', W3.e7] at C; refine (stay_call hs C).mono ?_; clear C; rintro e w2 ⟨rfl, S2, hs2⟩; replace hs := hs2; clear hs2)
    | (go_at_call 17; have C := Free_any (.pointer (some ⟨q, 0, none⟩)) W3.X7 _ 0 _ hs.mem (W3.w7.le (by omega)); rw [W3.e8', W3.e8] at C; refine (stay_call hs C).mono ?_; clear C; rintro e w2 ⟨rfl, S2, hs2⟩; replace hs := hs2; clear hs2)
    | (go_at_call 19; have C := Held_any (.pointer (some ⟨q, 0, none⟩)) W3.X8 _ 0 _ hs.mem (W3.w8.le (by omega)) hv; rw [heldOf_eq, W3.e9] at C; refine (stay_call hs C).mono ?_; clear C; rintro e w2 ⟨rfl, S2, hs2⟩; replace hs := hs2; clear hs2)
    | (go_at_call 34; refine (Tries_stay hs).mono ?_; rintro e w2 ⟨n2, rfl, hs2⟩; replace hs := hs2; clear hs2)
    have hD1l : D1 < w2.heap.size := hs.lie.lt (by simp [own])
    have hq2 := Tries1_seq (some ⟨q, 0, none⟩) 0 3 (by omega) n2 (n2 + 1) (n2 + 1 + 1) W3.X9 (W3.w9.le (by decide))
    rw [show (3 : Int).toNat = 3 from rfl, W3.e10] at hq2
    refine wp_range_seq (atMem_framed (.pointer (some ⟨q, 0, none⟩))) hq2 rfl (enters_of Try.func70 (by kernel_rfl) rfl) (fun _ _ => rfl)
      (inner (base (AtMem (.pointer (some ⟨q, 0, none⟩))) w []) _) (fun _ _ _ _ _ _ => False) (inner_rides base_rides _) (fun _ => ⟨fun h => h.elim, fun h => h.elim⟩)
      (fun h => ⟨h.2.1 (n2, _) (by simp), h.2.1 (n2 + 1, _) (by simp), h.2.1 (n2 + 1 + 1, _) (by simp)⟩) _ (hs.to_loop [])
      (fun a i b => { tmps := (((a.tmps.setIfInBounds 93 (.int .i64 i)).setIfInBounds 94 (.bool b)).setIfInBounds 22 (.int .i64 i)).setIfInBounds 23 (.bool b), defers := [] }) ?assign2 ?body2 ?done2 ?stop2
    case assign2 =>
      intro l2 m i b K W4 hK
      gi_wp2
      exact hK
    case body2 =>
      intro l2 m x S4 U4 pre b W4 hpre hj
      obtain ⟨rfl, rfl⟩ : pre = [] ∧ b = true := by
        obtain ⟨t, ht⟩ := hpre
        cases pre with
        | nil => simp at ht; exact ⟨rfl, ht.1⟩
        | cons c pre => simp at ht
      gi_wp2
      exact ⟨hj, Same.refl _ _⟩
    case done2 =>
      intro S4 U4 Wy hj hD hDU hDS
      have hs := stay.of_loop hj hD hDU hDS
      clear hj hD hDU hDS
      obtain ⟨D2, hD2⟩ : ∃ D2, w2.heap.size = D2 := ⟨_, rfl⟩
      rw [hD2] at hs hD1l ⊢
      go_wp2_with first
        | (go_at_call 16; refine (num03_ok _ _).mono ?_; rintro e w' ⟨rfl, rfl⟩)
        | (go_at_call 18; have C := Try_any (.pointer (some ⟨q, 0, none⟩)) W3.X10 _ 9 _ hs.mem (W3.w10.le (by omega)) hv; rw [W3.e11] at C; refine (stay_call hs C).mono ?_; clear C; rintro e w2 ⟨rfl, S2, hs2⟩; replace hs := hs2; clear hs2; have kn := hs.blk (b := bn) (cs := #[.int .i64 3]) (e := 3) (by simp [F]); have cn := kn.cell 0; simp at cn; have k0 := hs.blk (b := b0) (cs := #[.bool false]) (e := 4) (by simp [F]); have cr := k0.cell 0; have fr := k0.frozen 0; simp at cr; clear kn k0)
      have kb : Blk w2 b0 #[.bool false] 4 := hs.blk (by simp [F])
      have kb2 := kb.set 0 (.bool true)
      have k1 : w2.heap[D1]? = some (.deferred (some [])) := hs.at (by simp)
      have k2 : w2.heap[D2]? = some (.deferred (some [])) := hs.at (by simp)
      have n1 := kb.ne_obj k1 rfl
      have n2 := kb.ne_obj k2 rfl
      have hr := (kb2.shut [D2, D1] (by simp; exact ⟨n2, n1⟩)).cell 0
      simp at hr
      refine bodyN_ret (v := .bool true) [D2, D1] rfl ?_ (by simp; omega) (by simp [results, Try.results13, go_sem, hr]) ⟨rfl, ?_⟩
      · simp only [List.mem_cons, List.not_mem_nil, or_false]
        rintro D (rfl | rfl)
        · exact (heap_setCell_other w2 ⟨b0, 0, none⟩ _ _ (Ne.symm n2)).trans k2
        · exact (heap_setCell_other w2 ⟨b0, 0, none⟩ _ _ (Ne.symm n1)).trans k1
      · refine Keeps.shut (hs.nothing.set _ _ (.inr (by rw [hb0]; exact Nat.le_refl _))) _ ?_
        simp only [List.mem_cons, List.not_mem_nil, or_false]
        rintro D (rfl | rfl)
        · exact .inr (hs.own_new (by simp [own]))
        · exact .inr (hs.own_new (by simp [own]))
    case stop2 =>
      intro c pre x S3 U3 W4 _ h
      exact h.elim
  case stop =>
    intro c pre x S3 U3 W4 _ h
    exact h.elim

end Go.Proofs.Ytejbeioiomjbpaa

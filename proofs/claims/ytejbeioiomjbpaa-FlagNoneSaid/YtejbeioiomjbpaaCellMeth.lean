import Derived.Test.YtejbeioiomjbpaaCellDone
namespace Go.Proofs.Ytejbeioiomjbpaa
open Go.RowKit

def zeroAcc : Value := .agg #[.int .i64 0, .int .i64 0, .int .u64 0, .int .u64 0, .bool false]


set_option maxRecDepth 100000 in
set_option maxHeartbeats 1000000 in
theorem done_noneI (v : Value) (op : Int) (a : Int) (k : Int) (f : Value) (w : World) (h : NoArena w v) :
    Calls Try.prog 57 #[v, .int .i64 op, .int .i64 k, .int .i64 a, f] w fun e w' => e = .returned (.tuple #[zeroAcc, .int .i64 1]) ∧ Keeps Nothing w w' := by
  have H := Lib.hid h
  clear h
  go_enter Try.func57, Try.ntmps57
  go_wp2_with fail
  refine wp_scope_fwd 0 rfl ?_
  go_wp2_with (go_at_call 55; refine (none_no _ _ (H.out.keep ((Keeps.refl _ _).alloc _))).mono ?_; rintro e w' ⟨rfl, rfl⟩)
  go_step3
  go_wp2
  refine jump_goto ?_
  go_wp2
  rw [Exit.noGoto_ret]
  exact bodyPost_ret (v := .tuple #[zeroAcc, .int .i64 1]) (by simp [results, Try.results57, go_sem, zeroAcc]) rfl ⟨rfl, ((Keeps.refl _ _).alloc _)⟩

set_option maxRecDepth 100000 in
set_option maxHeartbeats 1000000 in
theorem done_rangeI (p : Nat) (A : Ar) (S : List Nat) (op : Int) (a : Int) (k : Int) (f : Value) (w : World) (h : IsArena w p A S) (hk : k < 0 ∨ A.cells.length ≤ k) :
    Calls Try.prog 57 #[.pointer (some ⟨p, 0, none⟩), .int .i64 op, .int .i64 k, .int .i64 a, f] w fun e w' => e = .returned (.tuple #[zeroAcc, .int .i64 4]) ∧ Keeps Nothing w w' := by
  have HAL := Lib.hid h
  obtain ⟨hok, lv, cv, hb, hl, hc, hS⟩ := h
  obtain ⟨av, cap, rfl, _, _⟩ := ownsRow_form hc
  have hplt := hb.lt
  have c1 := hb.cell 2
  simp at c1
  have hlen : (A.cells.length : Int) ≤ 65536 := by have := hok.fits; have := hok.most2; omega
  clear hb hl hc hok hS
  by_cases hneg : k < 0
  all_goals
    go_enter Try.func57, Try.ntmps57
    go_wp2_with fail
    refine wp_scope_fwd 0 rfl ?_
    go_wp2_with (go_at_call 55; refine (none_ar (HAL.out.alloc _)).mono ?_; rintro e w' ⟨rfl, rfl⟩)
    go_step3
    go_wp2
    refine jump_goto ?_
    go_wp2
    rw [Exit.noGoto_ret]
    exact bodyPost_ret (v := .tuple #[zeroAcc, .int .i64 4]) (by simp [results, Try.results57, go_sem, zeroAcc]) rfl ⟨rfl, ((Keeps.refl _ _).alloc _)⟩

set_option maxRecDepth 100000 in
set_option maxHeartbeats 1000000 in
theorem done_noneU (v : Value) (op : Int) (a : Int) (k : Int) (f : Value) (w : World) (h : NoArena w v) :
    Calls Try.prog 59 #[v, .int .i64 op, .int .i64 k, .int .u64 a, f] w fun e w' => e = .returned (.tuple #[zeroAcc, .int .i64 1]) ∧ Keeps Nothing w w' := by
  have H := Lib.hid h
  clear h
  go_enter Try.func59, Try.ntmps59
  go_wp2_with fail
  refine wp_scope_fwd 0 rfl ?_
  go_wp2_with (go_at_call 55; refine (none_no _ _ (H.out.keep ((Keeps.refl _ _).alloc _))).mono ?_; rintro e w' ⟨rfl, rfl⟩)
  go_step3
  go_wp2
  refine jump_goto ?_
  go_wp2
  rw [Exit.noGoto_ret]
  exact bodyPost_ret (v := .tuple #[zeroAcc, .int .i64 1]) (by simp [results, Try.results59, go_sem, zeroAcc]) rfl ⟨rfl, ((Keeps.refl _ _).alloc _)⟩

set_option maxRecDepth 100000 in
set_option maxHeartbeats 1000000 in
theorem done_rangeU (p : Nat) (A : Ar) (S : List Nat) (op : Int) (a : Int) (k : Int) (f : Value) (w : World) (h : IsArena w p A S) (hk : k < 0 ∨ A.cells.length ≤ k) :
    Calls Try.prog 59 #[.pointer (some ⟨p, 0, none⟩), .int .i64 op, .int .i64 k, .int .u64 a, f] w fun e w' => e = .returned (.tuple #[zeroAcc, .int .i64 4]) ∧ Keeps Nothing w w' := by
  have HAL := Lib.hid h
  obtain ⟨hok, lv, cv, hb, hl, hc, hS⟩ := h
  obtain ⟨av, cap, rfl, _, _⟩ := ownsRow_form hc
  have hplt := hb.lt
  have c1 := hb.cell 2
  simp at c1
  have hlen : (A.cells.length : Int) ≤ 65536 := by have := hok.fits; have := hok.most2; omega
  clear hb hl hc hok hS
  by_cases hneg : k < 0
  all_goals
    go_enter Try.func59, Try.ntmps59
    go_wp2_with fail
    refine wp_scope_fwd 0 rfl ?_
    go_wp2_with (go_at_call 55; refine (none_ar (HAL.out.alloc _)).mono ?_; rintro e w' ⟨rfl, rfl⟩)
    go_step3
    go_wp2
    refine jump_goto ?_
    go_wp2
    rw [Exit.noGoto_ret]
    exact bodyPost_ret (v := .tuple #[zeroAcc, .int .i64 4]) (by simp [results, Try.results59, go_sem, zeroAcc]) rfl ⟨rfl, ((Keeps.refl _ _).alloc _)⟩

set_option maxRecDepth 100000 in
set_option maxHeartbeats 1000000 in
theorem done_noneP (v : Value) (op : Int) (a b : Int) (k : Int) (f : Value) (w : World) (h : NoArena w v) :
    Calls Try.prog 61 #[v, .int .i64 op, .int .i64 k, .agg #[.int .u64 a, .int .u64 b], f] w fun e w' => e = .returned (.tuple #[zeroAcc, .int .i64 1]) ∧ Keeps Nothing w w' := by
  have H := Lib.hid h
  clear h
  go_enter Try.func61, Try.ntmps61
  go_wp2_with fail
  refine wp_scope_fwd 0 rfl ?_
  go_wp2_with (go_at_call 55; refine (none_no _ _ (H.out.keep (((Keeps.refl _ _).alloc _).alloc _))).mono ?_; rintro e w' ⟨rfl, rfl⟩)
  go_step3
  go_wp2
  refine jump_goto ?_
  go_wp2
  rw [Exit.noGoto_ret]
  exact bodyPost_ret (v := .tuple #[zeroAcc, .int .i64 1]) (by simp [results, Try.results61, go_sem, zeroAcc]) rfl ⟨rfl, (((Keeps.refl _ _).alloc _).alloc _)⟩

set_option maxRecDepth 100000 in
set_option maxHeartbeats 1000000 in
theorem done_rangeP (p : Nat) (A : Ar) (S : List Nat) (op : Int) (a b : Int) (k : Int) (f : Value) (w : World) (h : IsArena w p A S) (hk : k < 0 ∨ A.cells.length ≤ k) :
    Calls Try.prog 61 #[.pointer (some ⟨p, 0, none⟩), .int .i64 op, .int .i64 k, .agg #[.int .u64 a, .int .u64 b], f] w fun e w' => e = .returned (.tuple #[zeroAcc, .int .i64 4]) ∧ Keeps Nothing w w' := by
  have HAL := Lib.hid h
  obtain ⟨hok, lv, cv, hb, hl, hc, hS⟩ := h
  obtain ⟨av, cap, rfl, _, _⟩ := ownsRow_form hc
  have hplt := hb.lt
  have c1 := hb.cell 2
  simp at c1
  have hlen : (A.cells.length : Int) ≤ 65536 := by have := hok.fits; have := hok.most2; omega
  clear hb hl hc hok hS
  by_cases hneg : k < 0
  all_goals
    go_enter Try.func61, Try.ntmps61
    go_wp2_with fail
    refine wp_scope_fwd 0 rfl ?_
    go_wp2_with (go_at_call 55; refine (none_ar ((HAL.out.alloc _).alloc _)).mono ?_; rintro e w' ⟨rfl, rfl⟩)
    go_step3
    go_wp2
    refine jump_goto ?_
    go_wp2
    rw [Exit.noGoto_ret]
    exact bodyPost_ret (v := .tuple #[zeroAcc, .int .i64 4]) (by simp [results, Try.results61, go_sem, zeroAcc]) rfl ⟨rfl, (((Keeps.refl _ _).alloc _).alloc _)⟩

set_option maxRecDepth 100000 in
set_option maxHeartbeats 1000000 in
theorem Load_none (v : Value) (k : Int)  (w : World) (h : NoArena w v) :
    Calls Try.prog 22 #[v, .int .i64 k] w fun e w' => e = .returned (.tuple #[.int .u64 0, .int .i64 1]) ∧ Keeps Nothing w w' := by
  have H := Lib.hid h
  clear h

  go_enter Try.func22, Try.ntmps22
  go_wp2_with (go_at_call 57; refine (done_noneI _ _ (0) _ _ _ H.out).mono ?_; rintro e w1 ⟨rfl, hk1⟩; have HK1 := Lib.hid hk1; clear hk1; unfold zeroAcc)
  go_ret2
  exact ⟨rfl, HK1.out.alloc _⟩

set_option maxRecDepth 100000 in
set_option maxHeartbeats 1000000 in
theorem Load_range (p : Nat) (A : Ar) (S : List Nat) (k : Int)  (w : World) (h : IsArena w p A S) (hk : k < 0 ∨ A.cells.length ≤ k) :
    Calls Try.prog 22 #[.pointer (some ⟨p, 0, none⟩), .int .i64 k] w fun e w' => e = .returned (.tuple #[.int .u64 0, .int .i64 4]) ∧ Keeps Nothing w w' := by
  have H := Lib.hid h
  clear h
  have HK := Lib.hid hk
  clear hk
  go_enter Try.func22, Try.ntmps22
  go_wp2_with (go_at_call 57; refine (done_rangeI _ _ _ _ (0) _ _ _ H.out HK.out).mono ?_; rintro e w1 ⟨rfl, hk1⟩; have HK1 := Lib.hid hk1; clear hk1; unfold zeroAcc)
  go_ret2
  exact ⟨rfl, HK1.out.alloc _⟩

set_option maxRecDepth 100000 in
set_option maxHeartbeats 1000000 in
theorem Load_ok (p : Nat) (A : Ar) (S : List Nat) (k : Nat)  (w : World) (h : IsArena w p A S) (hk : k < A.cells.length) (hm : A.many + 1 < 4611686018427387904)  :
    Calls Try.prog 22 #[.pointer (some ⟨p, 0, none⟩), .int .i64 k] w fun e w' => e = .returned (.tuple #[.int .u64 (A.cells[k]?.getD 0), .int .i64 0]) ∧
      ∃ S', IsArena w' p (A.does 1 k (A.cells[k]?.getD 0) true) S' ∧ Turn S S' w w' := by
  obtain ⟨old, hold⟩ : ∃ old, A.cells[k]?.getD 0 = old := ⟨_, rfl⟩
  have D := done_load p A S 1 k (0) w h hk hm 
  rw [hold] at D
  try rw [hold]

  clear hold h hk hm
  have HD := Lib.hid D
  clear D
  go_enter Try.func22, Try.ntmps22
  go_wp2_with (go_at_call 57; refine HD.out.mono ?_; rintro e w1 ⟨rfl, S', ha, ht⟩; have HA := Lib.hid ha; have HT := Lib.hid ht; clear ha ht; unfold Acc.enc)
  go_ret2
  exact ⟨rfl, S', HA.out.alloc _, HT.out.then ((Keeps.refl _ _).alloc _)⟩

set_option maxRecDepth 100000 in
set_option maxHeartbeats 1000000 in
theorem Store_none (v : Value) (k : Int) (a : Int) (w : World) (h : NoArena w v) :
    Calls Try.prog 23 #[v, .int .i64 k, .int .u64 a] w fun e w' => e = .returned (.int .i64 1) ∧ Keeps Nothing w w' := by
  have H := Lib.hid h
  clear h

  go_enter Try.func23, Try.ntmps23
  go_wp2_with (go_at_call 59; refine (done_noneU _ _ (a) _ _ _ H.out).mono ?_; rintro e w1 ⟨rfl, hk1⟩; have HK1 := Lib.hid hk1; clear hk1; unfold zeroAcc)
  go_ret
  exact ⟨rfl, HK1.out.alloc _⟩

set_option maxRecDepth 100000 in
set_option maxHeartbeats 1000000 in
theorem Store_range (p : Nat) (A : Ar) (S : List Nat) (k : Int) (a : Int) (w : World) (h : IsArena w p A S) (hk : k < 0 ∨ A.cells.length ≤ k) :
    Calls Try.prog 23 #[.pointer (some ⟨p, 0, none⟩), .int .i64 k, .int .u64 a] w fun e w' => e = .returned (.int .i64 4) ∧ Keeps Nothing w w' := by
  have H := Lib.hid h
  clear h
  have HK := Lib.hid hk
  clear hk
  go_enter Try.func23, Try.ntmps23
  go_wp2_with (go_at_call 59; refine (done_rangeU _ _ _ _ (a) _ _ _ H.out HK.out).mono ?_; rintro e w1 ⟨rfl, hk1⟩; have HK1 := Lib.hid hk1; clear hk1; unfold zeroAcc)
  go_ret
  exact ⟨rfl, HK1.out.alloc _⟩

set_option maxRecDepth 100000 in
set_option maxHeartbeats 1000000 in
theorem Store_ok (p : Nat) (A : Ar) (S : List Nat) (k : Nat) (a : Int) (w : World) (h : IsArena w p A S) (hk : k < A.cells.length) (hm : A.many + 1 < 4611686018427387904) (ha : 0 ≤ a ∧ a < 18446744073709551616) :
    Calls Try.prog 23 #[.pointer (some ⟨p, 0, none⟩), .int .i64 k, .int .u64 a] w fun e w' => e = .returned (.int .i64 0) ∧
      ∃ S', IsArena w' p (A.does 2 k (a) true) S' ∧ Turn S S' w w' := by
  obtain ⟨old, hold⟩ : ∃ old, A.cells[k]?.getD 0 = old := ⟨_, rfl⟩
  have D := done_store p A S 2 k (a) w h hk hm ha
  rw [hold] at D
  try rw [hold]

  clear hold h hk hm
  have HD := Lib.hid D
  clear D
  go_enter Try.func23, Try.ntmps23
  go_wp2_with (go_at_call 59; refine HD.out.mono ?_; rintro e w1 ⟨rfl, S', ha, ht⟩; have HA := Lib.hid ha; have HT := Lib.hid ht; clear ha ht; unfold Acc.enc)
  go_ret
  exact ⟨rfl, S', HA.out.alloc _, HT.out.then ((Keeps.refl _ _).alloc _)⟩

set_option maxRecDepth 100000 in
set_option maxHeartbeats 1000000 in
theorem Swap_none (v : Value) (k : Int) (a b : Int) (w : World) (h : NoArena w v) :
    Calls Try.prog 24 #[v, .int .i64 k, .int .u64 a, .int .u64 b] w fun e w' => e = .returned (.tuple #[.int .u64 0, .bool false, .int .i64 1]) ∧ Keeps Nothing w w' := by
  have H := Lib.hid h
  clear h

  go_enter Try.func24, Try.ntmps24
  go_wp2_with (go_at_call 61; refine (done_noneP _ _ (a) (b) _ _ _ H.out).mono ?_; rintro e w1 ⟨rfl, hk1⟩; have HK1 := Lib.hid hk1; clear hk1; unfold zeroAcc)
  refine wp_mix (by kernel_rfl) (by kernel_rfl) (by kernel_rfl) ?_
  go_wp2
  go_ret3
  exact ⟨rfl, (HK1.out.alloc _).drew⟩

set_option maxRecDepth 100000 in
set_option maxHeartbeats 1000000 in
theorem Swap_range (p : Nat) (A : Ar) (S : List Nat) (k : Int) (a b : Int) (w : World) (h : IsArena w p A S) (hk : k < 0 ∨ A.cells.length ≤ k) :
    Calls Try.prog 24 #[.pointer (some ⟨p, 0, none⟩), .int .i64 k, .int .u64 a, .int .u64 b] w fun e w' => e = .returned (.tuple #[.int .u64 0, .bool false, .int .i64 4]) ∧ Keeps Nothing w w' := by
  have H := Lib.hid h
  clear h
  have HK := Lib.hid hk
  clear hk
  go_enter Try.func24, Try.ntmps24
  go_wp2_with (go_at_call 61; refine (done_rangeP _ _ _ _ (a) (b) _ _ _ H.out HK.out).mono ?_; rintro e w1 ⟨rfl, hk1⟩; have HK1 := Lib.hid hk1; clear hk1; unfold zeroAcc)
  refine wp_mix (by kernel_rfl) (by kernel_rfl) (by kernel_rfl) ?_
  go_wp2
  go_ret3
  exact ⟨rfl, (HK1.out.alloc _).drew⟩

set_option maxRecDepth 100000 in
set_option maxHeartbeats 1000000 in
theorem Swap_ok (p : Nat) (A : Ar) (S : List Nat) (k : Nat) (a b : Int) (w : World) (h : IsArena w p A S) (hk : k < A.cells.length) (hm : A.many + 1 < 4611686018427387904) (hbb : 0 ≤ b ∧ b < 18446744073709551616) :
    Calls Try.prog 24 #[.pointer (some ⟨p, 0, none⟩), .int .i64 k, .int .u64 a, .int .u64 b] w fun e w' => e = .returned (.tuple #[.int .u64 (A.cells[k]?.getD 0), .bool (decide (A.cells[k]?.getD 0 = a)), .int .i64 0]) ∧
      ∃ S', IsArena w' p (A.does 3 k (if A.cells[k]?.getD 0 = a then b else A.cells[k]?.getD 0) (decide (A.cells[k]?.getD 0 = a))) S' ∧ Turn S S' w w' := by
  obtain ⟨old, hold⟩ : ∃ old, A.cells[k]?.getD 0 = old := ⟨_, rfl⟩
  have D := done_swap p A S 3 k (a) (b) w h hk hm hbb
  rw [hold] at D
  try rw [hold]
  obtain ⟨nv, hnv⟩ : ∃ nv, (if old = a then b else old) = nv := ⟨_, rfl⟩
  obtain ⟨dv, hdv⟩ : ∃ dv, decide (old = a) = dv := ⟨_, rfl⟩
  rw [hnv, hdv] at D ⊢
  clear hnv hdv
  clear hold h hk hm
  have HD := Lib.hid D
  clear D
  go_enter Try.func24, Try.ntmps24
  go_wp2_with (go_at_call 61; refine HD.out.mono ?_; rintro e w1 ⟨rfl, S', ha, ht⟩; have HA := Lib.hid ha; have HT := Lib.hid ht; clear ha ht; unfold Acc.enc)
  refine wp_mix (by kernel_rfl) (by kernel_rfl) (by kernel_rfl) ?_
  go_wp2
  go_ret3
  exact ⟨rfl, S', (HA.out.alloc _).drew, HT.out.then ((Keeps.refl _ _).alloc _).drew⟩

set_option maxRecDepth 100000 in
set_option maxHeartbeats 1000000 in
theorem Add_none (v : Value) (k : Int) (a : Int) (w : World) (h : NoArena w v) :
    Calls Try.prog 25 #[v, .int .i64 k, .int .u64 a] w fun e w' => e = .returned (.tuple #[.int .u64 0, .int .i64 1]) ∧ Keeps Nothing w w' := by
  have H := Lib.hid h
  clear h

  go_enter Try.func25, Try.ntmps25
  go_wp2_with (go_at_call 59; refine (done_noneU _ _ (a) _ _ _ H.out).mono ?_; rintro e w1 ⟨rfl, hk1⟩; have HK1 := Lib.hid hk1; clear hk1; unfold zeroAcc)
  go_ret2
  exact ⟨rfl, HK1.out.alloc _⟩

set_option maxRecDepth 100000 in
set_option maxHeartbeats 1000000 in
theorem Add_range (p : Nat) (A : Ar) (S : List Nat) (k : Int) (a : Int) (w : World) (h : IsArena w p A S) (hk : k < 0 ∨ A.cells.length ≤ k) :
    Calls Try.prog 25 #[.pointer (some ⟨p, 0, none⟩), .int .i64 k, .int .u64 a] w fun e w' => e = .returned (.tuple #[.int .u64 0, .int .i64 4]) ∧ Keeps Nothing w w' := by
  have H := Lib.hid h
  clear h
  have HK := Lib.hid hk
  clear hk
  go_enter Try.func25, Try.ntmps25
  go_wp2_with (go_at_call 59; refine (done_rangeU _ _ _ _ (a) _ _ _ H.out HK.out).mono ?_; rintro e w1 ⟨rfl, hk1⟩; have HK1 := Lib.hid hk1; clear hk1; unfold zeroAcc)
  go_ret2
  exact ⟨rfl, HK1.out.alloc _⟩

set_option maxRecDepth 100000 in
set_option maxHeartbeats 1000000 in
theorem Add_ok (p : Nat) (A : Ar) (S : List Nat) (k : Nat) (a : Int) (w : World) (h : IsArena w p A S) (hk : k < A.cells.length) (hm : A.many + 1 < 4611686018427387904)  :
    Calls Try.prog 25 #[.pointer (some ⟨p, 0, none⟩), .int .i64 k, .int .u64 a] w fun e w' => e = .returned (.tuple #[.int .u64 (A.cells[k]?.getD 0), .int .i64 0]) ∧
      ∃ S', IsArena w' p (A.does 4 k (addU (A.cells[k]?.getD 0) a) true) S' ∧ Turn S S' w w' := by
  obtain ⟨old, hold⟩ : ∃ old, A.cells[k]?.getD 0 = old := ⟨_, rfl⟩
  have D := done_add p A S 4 k (a) w h hk hm 
  rw [hold] at D
  try rw [hold]

  clear hold h hk hm
  have HD := Lib.hid D
  clear D
  go_enter Try.func25, Try.ntmps25
  go_wp2_with (go_at_call 59; refine HD.out.mono ?_; rintro e w1 ⟨rfl, S', ha, ht⟩; have HA := Lib.hid ha; have HT := Lib.hid ht; clear ha ht; unfold Acc.enc)
  go_ret2
  exact ⟨rfl, S', HA.out.alloc _, HT.out.then ((Keeps.refl _ _).alloc _)⟩

end Go.Proofs.Ytejbeioiomjbpaa

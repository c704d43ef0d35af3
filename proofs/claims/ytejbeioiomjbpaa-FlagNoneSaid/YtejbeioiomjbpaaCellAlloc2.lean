import Derived.Test.YtejbeioiomjbpaaCellAlloc
namespace Go.Proofs.Ytejbeioiomjbpaa
open Go.RowKit

set_option maxRecDepth 100000 in
set_option maxHeartbeats 1000000 in
theorem Alloc_none (v : Value) (n : Int) (w : World) (h : NoArena w v) :
    Calls Try.prog 21 #[v, .int .i64 n] w fun e w' => e = .returned (.tuple #[.int .i64 0, .int .i64 1]) ∧ Keeps Nothing w w' := by
  have H := Lib.hid h
  clear h
  go_enter Try.func21, Try.ntmps21
  go_wp2_with fail
  refine wp_scope_fwd 0 rfl ?_
  go_wp2_with (go_at_call 55; refine (none_no _ _ H.out).mono ?_; rintro e w' ⟨rfl, rfl⟩)
  go_step3
  go_wp2
  refine jump_goto ?_
  go_wp2
  rw [Exit.noGoto_ret]
  go_ret2
  exact ⟨rfl, Keeps.refl _ _⟩

set_option maxRecDepth 100000 in
set_option maxHeartbeats 1000000 in
theorem Alloc_neg (p : Nat) (A : Ar) (S : List Nat) (n : Int) (w : World) (h : IsArena w p A S) (hn : n < 0) :
    Calls Try.prog 21 #[.pointer (some ⟨p, 0, none⟩), .int .i64 n] w fun e w' => e = .returned (.tuple #[.int .i64 0, .int .i64 2]) ∧ Keeps Nothing w w' := by
  have H := Lib.hid h
  clear h
  go_enter Try.func21, Try.ntmps21
  go_wp2_with fail
  refine wp_scope_fwd 0 rfl ?_
  go_wp2_with (go_at_call 55; refine (none_ar H.out).mono ?_; rintro e w' ⟨rfl, rfl⟩)
  go_step3
  go_wp2
  refine jump_goto ?_
  go_wp2
  rw [Exit.noGoto_ret]
  go_ret2
  exact ⟨rfl, Keeps.refl _ _⟩

set_option maxRecDepth 100000 in
set_option maxHeartbeats 1000000 in
theorem Alloc_full (p : Nat) (A : Ar) (S : List Nat) (n : Int) (w : World) (h : IsArena w p A S) (hn : 0 ≤ n) (hf : A.most - A.cells.length < n) :
    Calls Try.prog 21 #[.pointer (some ⟨p, 0, none⟩), .int .i64 n] w fun e w' => e = .returned (.tuple #[.int .i64 0, .int .i64 6]) ∧ Keeps Nothing w w' := by
  have H := Lib.hid h
  obtain ⟨hl1, hl2⟩ := h.lens
  obtain ⟨hok, lv, cv, hb, hl, hc, hS⟩ := h
  obtain ⟨av, cap, rfl, _, _⟩ := ownsRow_form hc
  have c1 := hb.cell 2
  have c3 := hb.cell 3
  simp at c1 c3
  clear hb hl hc hok hS
  go_enter Try.func21, Try.ntmps21
  go_wp2_with fail
  refine wp_scope_fwd 0 rfl ?_
  go_wp2_with (go_at_call 55; refine (none_ar H.out).mono ?_; rintro e w' ⟨rfl, rfl⟩)
  refine wp_mixp (by kernel_rfl) (by kernel_rfl) ?_
  go_wp2
  refine ⟨by kernel_rfl, ?_⟩
  go_wp2
  go_step3
  go_wp2
  refine jump_goto ?_
  go_wp2
  rw [Exit.noGoto_ret]
  go_ret2
  exact ⟨rfl, (Keeps.refl _ _).drew⟩

set_option maxRecDepth 100000 in
set_option maxHeartbeats 1000000 in
theorem Alloc_ok (p : Nat) (A : Ar) (S : List Nat) (n : Nat) (w : World) (h : IsArena w p A S) (hf : (n : Int) ≤ A.most - A.cells.length) :
    Calls Try.prog 21 #[.pointer (some ⟨p, 0, none⟩), .int .i64 n] w fun e w' => e = .returned (.tuple #[.int .i64 A.cells.length, .int .i64 0]) ∧
      ∃ S', IsArena w' p { A with cells := A.cells ++ zeros n } S' ∧ Turn S S' w w' := by
  have H := Lib.hid h
  obtain ⟨hl1, hl2⟩ := h.lens
  obtain ⟨hok, lv, cv, hb, hl, hc, hS⟩ := h
  obtain ⟨av, cap, rfl, _, _⟩ := ownsRow_form hc
  have c1 := hb.cell 2
  have c3 := hb.cell 3
  simp at c1 c3
  clear hb hl hc hok hS
  obtain ⟨i0, hi, hz0, hz1, hz2⟩ := info_parts infoU64
  go_enter Try.func21, Try.ntmps21
  go_wp2_with fail
  refine wp_scope_fwd 0 rfl ?_
  go_wp2_with (go_at_call 55; refine (none_ar H.out).mono ?_; rintro e w' ⟨rfl, rfl⟩)
  refine wp_mixp (by kernel_rfl) (by kernel_rfl) ?_
  go_wp2
  refine ⟨by kernel_rfl, ?_⟩
  go_wp2_with (at_make; refine wpList_make_full _ rfl (.tmp 28) (.tmp 28) 38 rfl 0 39 i0 (.int .u64 0) 1 Try.underlying38 hi hz0 hz1 .i64 .i64 n n n rfl rfl rfl rfl (by rw [hz2]; omega) (by unfold maxLen; omega) (Nat.zero_le _) ?_)
  intro w1 hown hgrow
  have hk1 : Keeps Nothing w w1 := (Keeps.refl _ w).drew.grown hgrow (fun k hk => by cases hk)
  have hz : (madeCells #[Value.int .u64 0] n).toList = (zeros n).map (Value.int .u64) :=
    (toList_madeCells_one _ _).trans (by simp [zeros])
  rw [hz] at hown
  have HOWN := Lib.hid hown
  have HK1 := Lib.hid hk1
  have HA1 := Lib.hid (H.out.frame hk1 (fun _ _ h => h))
  clear hown hk1 hgrow hz
  go_wp2_with (go_at_call 56; refine (put_ok p A S _ n _ HA1.out HOWN.out (by omega)).mono ?_; rintro e w' ⟨rfl, S', ha, ht⟩; have HA := Lib.hid ha; have HT := Lib.hid ht; clear ha ht)
  refine jump_ret ?_
  go_ret2
  exact ⟨rfl, S', HA.out, Turn.from HK1.out HT.out⟩
end Go.Proofs.Ytejbeioiomjbpaa

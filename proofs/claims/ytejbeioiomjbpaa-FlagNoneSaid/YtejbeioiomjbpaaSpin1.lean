/-
  Layer 3: New, try, held, Try, Free, Held.
-/
import Derived.Test.YtejbeioiomjbpaaMixC
import Derived.Test.YtejbeioiomjbpaaCellAny
namespace Go.Proofs.Ytejbeioiomjbpaa
open Go.RowKit

@[go_sem] theorem idx2_0 (a b : Int) (w : World) : (Instr.index 106 (.agg #[.int .u64 a, .int .u64 b]) (.int .i64 0)).run Try.prog w = .ok (.int .u64 a) w := by
  simp [Instr.index, asIntOf, run_underlying Try.underlying106, go_sem]
@[go_sem] theorem idx2_1 (a b : Int) (w : World) : (Instr.index 106 (.agg #[.int .u64 a, .int .u64 b]) (.int .i64 1)).run Try.prog w = .ok (.int .u64 b) w := by
  simp [Instr.index, asIntOf, run_underlying Try.underlying106, go_sem]

theorem numbers_ok (w : World) : Calls Try.prog 52 #[] w fun e w' => e = .returned (.agg #[.int .u64 0, .int .u64 1]) ∧ Keeps Nothing w w' := by
  go_enter Try.func52, Try.ntmps52
  go_wp2
  exact bodyPost_ret (v := .agg #[.int .u64 0, .int .u64 1]) (by simp [results, Try.results52, go_sem]) rfl ⟨rfl, (Keeps.refl _ _).alloc _⟩

/-- A try. -/
def tried (X : Option Ar) (k : Int) := acc X 3 k (fSwap 0 1)
/-- A free. -/
def freed (X : Option Ar) (k : Int) := acc X 3 k (fSwap 1 0)
def freedErr (X : Option Ar) (k : Int) : Int := if (freed X k).2.2.2 = 0 ∧ (freed X k).2.2.1 = false then 30 else (freed X k).2.2.2
def heldOf (X : Option Ar) (k : Int) : Bool := (acc X 1 k fLoad).2.1 != 0
def looked (X : Option Ar) (k : Int) := acc X 1 k fLoad

theorem lockTry_any (v : Value) (X : Option Ar) (S : List Nat) (k : Int) (w : World) (h : Mem w v X S) (hm : Few X 1) (hv : ∃ a, v = .pointer a) :
    Calls Try.prog 53 #[.agg #[v, .int .i64 k]] w fun e w' => e = .returned (.tuple #[.bool (tried X k).2.2.1, .int .i64 (tried X k).2.2.2]) ∧ ∃ S', Mem w' v (tried X k).1 S' ∧ Turn S S' w w' := by
  obtain ⟨a, rfl⟩ := hv
  have H := Lib.hid h
  have HM := Lib.hid hm
  clear h hm
  unfold tried
  go_enter Try.func53, Try.ntmps53
  go_wp2_with first
    | (go_at_call 52; refine (numbers_ok _).mono ?_; rintro e w1 ⟨rfl, hk1⟩; have hb := hk1.blk (Blk.new w #[.pointer a, .int .i64 k] 109) id; have hl := hb.lt; have hc0 := hb.cell 0; have hc1 := hb.cell 1; simp at hc0 hc1; clear hb; have HK1 := Lib.hid hk1; clear hk1)
    | (go_at_call 24; refine (Swap_any _ X S k 0 1 _ (H.out.keep ((((Keeps.refl _ _).alloc _).then HK1.out).alloc _)) HM.out (by omega)).mono ?_; rintro e w2 ⟨rfl, S', hm2, ht2⟩; have HM2 := Lib.hid hm2; have HT2 := Lib.hid ht2; clear hm2 ht2)
  go_ret2
  exact ⟨rfl, S', HM2.out, .from ((((Keeps.refl _ _).alloc _).then HK1.out).alloc _) HT2.out⟩

set_option maxRecDepth 100000 in
theorem lockHeld_any (v : Value) (X : Option Ar) (S : List Nat) (k : Int) (w : World) (h : Mem w v X S) (hm : Few X 1) (hv : ∃ a, v = .pointer a) :
    Calls Try.prog 54 #[.agg #[v, .int .i64 k]] w fun e w' => e = .returned (.tuple #[.bool (heldOf X k), .int .i64 (looked X k).2.2.2]) ∧ ∃ S', Mem w' v (looked X k).1 S' ∧ Turn S S' w w' := by
  obtain ⟨a, rfl⟩ := hv
  have H := Lib.hid h
  have HM := Lib.hid hm
  clear h hm
  unfold looked heldOf
  obtain ⟨ov, hov⟩ : ∃ ov, (acc X 1 k fLoad).2.1 = ov := ⟨_, rfl⟩
  have C := fun w1 hk => (Load_any (.pointer a) X S k w1 (H.out.keep hk) HM.out)
  rw [hov] at C ⊢
  clear hov
  go_enter Try.func54, Try.ntmps54
  go_wp2_with first
    | (go_at_call 52; refine (numbers_ok _).mono ?_; rintro e w3 ⟨rfl, hk3⟩; have HK3 := Lib.hid hk3; clear hk3)
    | (go_at_call 22; refine (C _ ((Keeps.refl _ _).alloc _)).mono ?_; rintro e w2 ⟨rfl, S', hm2, ht2⟩; have HM2 := Lib.hid hm2; have HT2 := Lib.hid ht2; clear hm2 ht2)
  go_ret2
  exact ⟨rfl, S', HM2.out.keep HK3.out, .from ((Keeps.refl _ _).alloc _) (HT2.out.then HK3.out)⟩

set_option maxRecDepth 100000 in
theorem spinNew_any (v : Value) (X : Option Ar) (S : List Nat) (w : World) (h : Mem w v X S) :
    Calls Try.prog 15 #[v] w fun e w' => e = .returned (.tuple #[.int .i64 (allot X 1).2.1, .int .i64 (allot X 1).2.2]) ∧ ∃ S', Mem w' v (allot X 1).1 S' ∧ Turn S S' w w' := by
  have H := Lib.hid h
  clear h
  go_enter Try.func15, Try.ntmps15
  go_wp2_with (go_at_call 21; refine (Alloc_any _ X S 1 _ H.out).mono ?_; rintro e w2 ⟨rfl, S', hm2, ht2⟩; have HM2 := Lib.hid hm2; have HT2 := Lib.hid ht2; clear hm2 ht2)
  go_ret2
  exact ⟨rfl, S', HM2.out, HT2.out⟩

theorem Try_any (v : Value) (X : Option Ar) (S : List Nat) (k : Int) (w : World) (h : Mem w v X S) (hm : Few X 1) (hv : ∃ a, v = .pointer a) :
    Calls Try.prog 18 #[v, .int .i64 k] w fun e w' => e = .returned (.tuple #[.bool (tried X k).2.2.1, .int .i64 (tried X k).2.2.2]) ∧ ∃ S', Mem w' v (tried X k).1 S' ∧ Turn S S' w w' := by
  have H := Lib.hid h
  have HM := Lib.hid hm
  have HV := Lib.hid hv
  obtain ⟨a, rfl⟩ := hv
  clear h hm
  go_enter Try.func18, Try.ntmps18
  go_wp2_with (go_at_call 53; refine (lockTry_any _ X S k _ H.out HM.out HV.out).mono ?_; rintro e w2 ⟨rfl, S', hm2, ht2⟩; have HM2 := Lib.hid hm2; have HT2 := Lib.hid ht2; clear hm2 ht2)
  go_ret2
  exact ⟨rfl, S', HM2.out, HT2.out⟩

theorem Held_any (v : Value) (X : Option Ar) (S : List Nat) (k : Int) (w : World) (h : Mem w v X S) (hm : Few X 1) (hv : ∃ a, v = .pointer a) :
    Calls Try.prog 19 #[v, .int .i64 k] w fun e w' => e = .returned (.tuple #[.bool (heldOf X k), .int .i64 (looked X k).2.2.2]) ∧ ∃ S', Mem w' v (looked X k).1 S' ∧ Turn S S' w w' := by
  have H := Lib.hid h
  have HM := Lib.hid hm
  have HV := Lib.hid hv
  obtain ⟨a, rfl⟩ := hv
  clear h hm
  go_enter Try.func19, Try.ntmps19
  go_wp2_with (go_at_call 54; refine (lockHeld_any _ X S k _ H.out HM.out HV.out).mono ?_; rintro e w2 ⟨rfl, S', hm2, ht2⟩; have HM2 := Lib.hid hm2; have HT2 := Lib.hid ht2; clear hm2 ht2)
  go_ret2
  exact ⟨rfl, S', HM2.out, HT2.out⟩

theorem Free_any (v : Value) (X : Option Ar) (S : List Nat) (k : Int) (w : World) (h : Mem w v X S) (hm : Few X 1) :
    Calls Try.prog 17 #[v, .int .i64 k] w fun e w' => e = .returned (.int .i64 (freedErr X k)) ∧ ∃ S', Mem w' v (freed X k).1 S' ∧ Turn S S' w w' := by
  have H := Lib.hid h
  have HM := Lib.hid hm
  clear h hm
  unfold freedErr freed
  obtain ⟨er, her⟩ : ∃ er, (acc X 3 k (fSwap 1 0)).2.2.2 = er := ⟨_, rfl⟩
  obtain ⟨dd, hdd⟩ : ∃ dd, (acc X 3 k (fSwap 1 0)).2.2.1 = dd := ⟨_, rfl⟩
  have C := fun w1 hk => (Swap_any v X S k 1 0 w1 (H.out.keep hk) HM.out (by omega))
  rw [her, hdd] at C ⊢
  clear hdd her
  go_enter Try.func17, Try.ntmps17
  go_wp2_with fail
  refine wp_scope_fwd 0 rfl ?_
  go_wp2_with first
    | (go_at_call 52; refine (numbers_ok _).mono ?_; rintro e w1 ⟨rfl, hk1⟩; have HK1 := Lib.hid hk1; clear hk1)
    | (go_at_call 24; refine (C _ (((Keeps.refl _ _).then HK1.out).alloc _)).mono ?_; rintro e w2 ⟨rfl, S', hm2, ht2⟩; have HM2 := Lib.hid hm2; have HT2 := Lib.hid ht2; clear hm2 ht2)
  · go_step3
    go_wp2
    refine jump_goto ?_
    go_wp2
    rw [Exit.noGoto_ret]
    have hne : er ≠ 0 := by simp_all
    go_ret
    exact ⟨by rw [if_neg (by simp [hne])]; rfl, S', HM2.out, .from (((Keeps.refl _ _).then HK1.out).alloc _) HT2.out⟩
  · go_step3
    go_wp2
    refine jump_goto ?_
    go_wp2
    rw [Exit.noGoto_ret]
    have h0 : er = 0 := by simp_all
    have h1 : dd = false := by simp_all
    go_ret
    exact ⟨by rw [if_pos ⟨h0, h1⟩]; rfl, S', HM2.out, .from (((Keeps.refl _ _).then HK1.out).alloc _) HT2.out⟩
  · go_wp2
    refine jump_ret ?_
    have h0 : er = 0 := by simp_all
    have h1 : dd = true := by simp_all
    go_ret
    exact ⟨by rw [h0, h1]; rfl, S', HM2.out, .from (((Keeps.refl _ _).then HK1.out).alloc _) HT2.out⟩

end Go.Proofs.Ytejbeioiomjbpaa

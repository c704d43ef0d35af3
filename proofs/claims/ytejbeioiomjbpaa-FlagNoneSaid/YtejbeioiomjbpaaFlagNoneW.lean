/-
  FlagNone: what is told of no arena.
-/
import Derived.Test.YtejbeioiomjbpaaFlagWorks
namespace Go.Proofs.Ytejbeioiomjbpaa
open Go.RowKit Go.Shelf
attribute [local go_sem] Oper.semAt_some

theorem acc_none (op k : Int) (f : Int → Int × Bool) : acc none op k f = (none, 0, false, 1) := rfl
theorem allot_none (n : Int) : allot none n = (none, 0, 1) := rfl
theorem had_none : hadOf 0 1 = (0, 1) := rfl
theorem few_none (n : Nat) : Few none n := fun A e => by cases e

set_option maxRecDepth 100000 in
set_option maxHeartbeats 2000000 in
theorem FlagNone_at (k : Int) (v : Value) (w0 W : World) (S : List Nat) (_hs : stay (AtMem v) w0 [] [] none S W) (hv : ∃ a, v = .pointer a) :
    (∀ w1 S1, stay (AtMem v) w0 [] [] none S1 w1 → Calls Try.prog 35 #[v] w1 fun e w' => e = .returned (.tuple #[.int .i64 0, .int .i64 1]) ∧ ∃ S', stay (AtMem v) w0 [] [] none S' w') ∧
    (∀ w1 S1, stay (AtMem v) w0 [] [] none S1 w1 → Calls Try.prog 36 #[v, .int .i64 k] w1 fun e w' => e = .returned (.tuple #[.int .i64 0, .int .i64 1]) ∧ ∃ S', stay (AtMem v) w0 [] [] none S' w') ∧
    (∀ w1 S1, stay (AtMem v) w0 [] [] none S1 w1 → Calls Try.prog 37 #[v, .int .i64 k] w1 fun e w' => e = .returned (.tuple #[.int .i64 0, .int .i64 1]) ∧ ∃ S', stay (AtMem v) w0 [] [] none S' w') ∧
    (∀ w1 S1, stay (AtMem v) w0 [] [] none S1 w1 → Calls Try.prog 38 #[v, .int .i64 k] w1 fun e w' => e = .returned (.tuple #[.int .i64 0, .int .i64 1]) ∧ ∃ S', stay (AtMem v) w0 [] [] none S' w') ∧
    (∀ w1 S1, stay (AtMem v) w0 [] [] none S1 w1 → Calls Try.prog 40 #[v, .int .i64 k] w1 fun e w' => e = .returned (.int .i64 1) ∧ ∃ S', stay (AtMem v) w0 [] [] none S' w') ∧
    (∀ w1 S1, stay (AtMem v) w0 [] [] none S1 w1 → Calls Try.prog 41 #[v, .int .i64 k] w1 fun e w' => e = .returned (.int .i64 1) ∧ ∃ S', stay (AtMem v) w0 [] [] none S' w') := by
  refine ⟨fun w1 S1 h => ?_, fun w1 S1 h => ?_, fun w1 S1 h => ?_, fun w1 S1 h => ?_, fun w1 S1 h => ?_, fun w1 S1 h => ?_⟩
  · have C := flagNew_any v none S1 w1 h.mem
    rw [allot_none] at C
    exact stay_call h C
  · have C := Claim_any v none S1 k w1 h.mem (few_none 1) hv
    rw [acc_none] at C
    exact stay_call h C
  · have C := Take_any v none S1 k w1 h.mem (few_none 1) hv
    rw [acc_none] at C
    exact stay_call h C
  · have C := Look_any v none S1 k w1 h.mem (few_none 1) hv
    rw [acc_none] at C
    exact stay_call h C
  · have C := Unclaim_any v none S1 k w1 h.mem (few_none 1)
    rw [acc_none] at C
    exact stay_call h C
  · have C := Settle_any v none S1 k w1 h.mem (few_none 1)
    rw [acc_none] at C
    exact stay_call h C

set_option maxRecDepth 100000 in
set_option maxHeartbeats 2000000 in
theorem FlagNone_walk (k : Int) (zero : Bool) (w : World) (_wk : (Lit.int .i64 k).wf = true) :
    Calls Try.prog 8 #[.int .i64 k, .bool zero] w fun e w' => e = .returned (.bool true) ∧ Keeps Nothing w w' := by
  cases zero with
  | false =>
    have hs : stay (AtMem (.pointer none)) w [] [] none [] w := stay.start0 ⟨.inl rfl, rfl⟩ (Keeps.refl _ _) (by simp)
    have hc := FlagNone_at k (.pointer none) w _ _ hs ⟨_, rfl⟩
    have HC := Lib.hid hc
    clear hc
    go_enter Try.func8, Try.ntmps8
    go_wp2_with first
      | (go_at_call 35; refine (HC.out.1 _ _ hs).mono ?_; rintro e w2 ⟨rfl, S2, hs2⟩; replace hs := hs2; clear hs2)
      | (go_at_call 36; refine (HC.out.2.1 _ _ hs).mono ?_; rintro e w2 ⟨rfl, S2, hs2⟩; replace hs := hs2; clear hs2)
      | (go_at_call 37; refine (HC.out.2.2.1 _ _ hs).mono ?_; rintro e w2 ⟨rfl, S2, hs2⟩; replace hs := hs2; clear hs2)
      | (go_at_call 38; refine (HC.out.2.2.2.1 _ _ hs).mono ?_; rintro e w2 ⟨rfl, S2, hs2⟩; replace hs := hs2; clear hs2)
      | (go_at_call 40; refine (HC.out.2.2.2.2.1 _ _ hs).mono ?_; rintro e w2 ⟨rfl, S2, hs2⟩; replace hs := hs2; clear hs2)
      | (go_at_call 41; refine (HC.out.2.2.2.2.2 _ _ hs).mono ?_; rintro e w2 ⟨rfl, S2, hs2⟩; replace hs := hs2; clear hs2)
      | (go_at_call 39; refine (num12_ok _ _).mono ?_; rintro e w' ⟨rfl, rfl⟩)
      | (go_at_call 42; refine (works12_ok _).mono ?_; rintro e w' ⟨rfl, hk⟩)
    exact bodyPost_ret (v := .bool true) (by simp [results, Try.results8, go_sem]) rfl ⟨rfl, hs.nothing.then hk⟩
  | true =>
    obtain ⟨q, hq⟩ : ∃ q, w.heap.size = q := ⟨_, rfl⟩
    have hs : stay (AtMem (.pointer (some ⟨q, 0, none⟩))) w [] [] none [q] (w.alloc (.cells #[.slice none 0 0, .int .u64 0, .slice none 0 0, .int .i64 0] 69)) :=
      stay.start0 ⟨.inr ⟨q, _, _, _, rfl, by rw [← hq]; exact Blk.new _ _ _⟩, rfl⟩ ((Keeps.refl _ _).alloc _) (by simp; omega)
    have hc := FlagNone_at k (.pointer (some ⟨q, 0, none⟩)) w _ _ hs ⟨_, rfl⟩
    have HC := Lib.hid hc
    clear hc
    go_enter Try.func8, Try.ntmps8
    go_wp2_with first
      | (go_at_call 35; refine (HC.out.1 _ _ hs).mono ?_; rintro e w2 ⟨rfl, S2, hs2⟩; replace hs := hs2; clear hs2)
      | (go_at_call 36; refine (HC.out.2.1 _ _ hs).mono ?_; rintro e w2 ⟨rfl, S2, hs2⟩; replace hs := hs2; clear hs2)
      | (go_at_call 37; refine (HC.out.2.2.1 _ _ hs).mono ?_; rintro e w2 ⟨rfl, S2, hs2⟩; replace hs := hs2; clear hs2)
      | (go_at_call 38; refine (HC.out.2.2.2.1 _ _ hs).mono ?_; rintro e w2 ⟨rfl, S2, hs2⟩; replace hs := hs2; clear hs2)
      | (go_at_call 40; refine (HC.out.2.2.2.2.1 _ _ hs).mono ?_; rintro e w2 ⟨rfl, S2, hs2⟩; replace hs := hs2; clear hs2)
      | (go_at_call 41; refine (HC.out.2.2.2.2.2 _ _ hs).mono ?_; rintro e w2 ⟨rfl, S2, hs2⟩; replace hs := hs2; clear hs2)
      | (go_at_call 39; refine (num12_ok _ _).mono ?_; rintro e w' ⟨rfl, rfl⟩)
      | (go_at_call 42; refine (works12_ok _).mono ?_; rintro e w' ⟨rfl, hk⟩)
    exact bodyPost_ret (v := .bool true) (by simp [results, Try.results8, go_sem]) rfl ⟨rfl, hs.nothing.then hk⟩
end Go.Proofs.Ytejbeioiomjbpaa

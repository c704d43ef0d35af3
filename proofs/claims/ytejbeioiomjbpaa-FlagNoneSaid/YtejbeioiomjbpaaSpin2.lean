/-
  Layer 3: tries, gone over.
-/
import Derived.Test.YtejbeioiomjbpaaRides
import Derived.Test.YtejbeioiomjbpaaSpin1
namespace Go.Proofs.Ytejbeioiomjbpaa
open Go.RowKit
attribute [local go_sem] Oper.semAt_some

/-- What tries tell, and what there is then. -/
def triesL (X : Option Ar) (k : Int) : Nat → List Bool × Option Ar
  | 0 => ([], X)
  | n + 1 =>
    if (tried X k).2.2.2 = 0 then
      if (tried X k).2.2.1 then ([true], (tried X k).1)
      else (false :: (triesL (tried X k).1 k n).1, (triesL (tried X k).1 k n).2)
    else ([], (tried X k).1)

/-- How an arena v lies. -/
abbrev AtMem (v : Value) : World → Option Ar → List Nat → Prop := fun W X S => Mem W v X S

theorem atMem_framed (v : Value) : Framed (AtMem v) := ⟨fun h hk => h.frame hk, fun h => Mem.lt h⟩

set_option maxRecDepth 100000 in
set_option maxHeartbeats 1000000 in
theorem every1_seq (a : Option Addr) (k most : Int) (hmost : most ≤ 9223372036854775807) (bm bl : Nat) (X : Option Ar) (hm : Few X (most.toNat + 1)) :
    Seq Try.prog 98 #[.pointer (some ⟨bm, 0, none⟩), .pointer (some ⟨bl, 0, none⟩)] (AtMem (.pointer a)) (fun i b => #[.int .i64 i, .bool b])
      (fun W => Blk W bm #[.int .i64 most] 3 ∧ Blk W bl #[.pointer a, .int .i64 k] 109) X (triesL X k most.toNat).1 (triesL X k most.toNat).2 := by
  intro l J Jx hJ hJx hbox hY S W h
  have hv : ∃ b, Value.pointer a = .pointer b := ⟨a, rfl⟩
  obtain ⟨v, hva⟩ : ∃ v, Value.pointer a = v := ⟨_, rfl⟩
  rw [hva] at hv hJ hJx hbox
  clear hva
  obtain ⟨U, hU⟩ : ∃ U : List Nat, U = [] := ⟨_, rfl⟩
  rw [← hU] at h
  clear hU
  refine (callsIn_wide (n := 3)).1 ?_
  refine callsIn_of_wp Try.func98 rfl trivial ?_ rfl
  simp only [Try.ntmps98, List.size_toArray, List.length_cons, List.length_nil, Nat.reduceAdd, Nat.reduceSub, Array.replicate_succ, Array.replicate_zero, List.push_toArray, List.append_toArray, List.nil_append, List.cons_append]
  gi_wp2
  gi_loopw [4] (fun p wr => ∃ (pre : List Bool) (Y : Option Ar) (S U : List Nat) (n : Nat), p = .int .i64 (pre.length : Nat) ∧ (pre.length : Int) + n = max most pre.length ∧ J Y S U pre wr ∧ Few Y (n + 1) ∧ triesL X k most.toNat = (pre ++ (triesL Y k n).1, (triesL Y k n).2))
    (fun p _ => (most - intOf p).toNat)
  case atStart => exact ⟨[], X, S, U, most.toNat, rfl, by simp, h, hm, by simp⟩
  case round =>
    obtain ⟨pre, Y, S1, U1, n, rfl, hn, hj, hf, ht⟩ := hrel
    obtain ⟨hb1, hb2⟩ := hbox hj
    have c1 := hb1.cell 0
    have c2 := hb2.cell 0
    have c3 := hb2.cell 1
    simp at c1 c2 c3
    cases n with
    | zero =>
      have hge : ¬ ((pre.length : Nat) : Int) < most := by omega
      have HT := Lib.hid ht
      clear ht
      gi_wp2
      go_end0
      rw [HT.out]
      exact ⟨⟨_, rfl⟩, .inl ⟨S1, U1, by simpa [triesL] using hj⟩⟩
    | succ n =>
      have hlt : ((pre.length : Nat) : Int) < most := by omega
      have HT := Lib.hid ht
      clear ht
      have C := fun W1 hw => lockTry_any v Y S1 k W1 hw (hf.le (by omega)) hv
      have HF := Lib.hid (acc_few (op := 3) (k := k) (f := fSwap 0 1) hf)
      have HM := Lib.hid (hJ.mem hj)
      obtain ⟨av, rfl⟩ := hv
      obtain ⟨er, her⟩ : ∃ er, (tried Y k).2.2.2 = er := ⟨_, rfl⟩
      obtain ⟨dd, hdd⟩ : ∃ dd, (tried Y k).2.2.1 = dd := ⟨_, rfl⟩
      obtain ⟨Y1, hY1⟩ : ∃ Y1, (tried Y k).1 = Y1 := ⟨_, rfl⟩
      have hfew : Few Y1 (n + 1) := hY1 ▸ HF.out
      have hun : triesL Y k (n + 1) = if er = 0 then if dd then ([true], Y1) else (false :: (triesL Y1 k n).1, (triesL Y1 k n).2) else ([], Y1) := by rw [triesL, her, hdd, hY1]
      rw [her, hdd, hY1] at C
      clear her hdd hY1
      have HUN := Lib.hid hun
      clear hun HF
      by_cases her : er = 0
      · subst her
        cases dd with
        | true =>
          gi_wp2_with (refine ⟨trivial, ?_⟩; gi_at_call 53; refine (callsIn_wide.2 (C _ HM.out)).mono ?_; rintro e w1 ⟨rfl, S2, hm2, ht2⟩; obtain ⟨fn, tmps, assign, body, hy, hR⟩ := hY true (by rw [HT.out, HUN.out]; exact List.prefix_rfl) (hJ.turn hj hm2 (ht2.more U1)) (3 - 1))
          refine hR.mono ?_
          rintro e W3 (⟨rfl, hJ3, -⟩ | ⟨rfl, hJx3, -⟩)
          · gi_wp2
            refine bodyPost_ret (results_none rfl _ _ _) rfl ?_
            rw [HT.out, HUN.out]
            exact ⟨⟨_, rfl⟩, .inl ⟨_, _, hJ3⟩⟩
          · gi_wp2
            refine bodyPost_ret (results_none rfl _ _ _) rfl ?_
            rw [HT.out, HUN.out]
            exact ⟨⟨_, rfl⟩, .inr ⟨pre ++ [true], _, _, _, List.prefix_rfl, hJx3⟩⟩
        | false =>
          gi_wp2_with (refine ⟨trivial, ?_⟩; gi_at_call 53; refine (callsIn_wide.2 (C _ HM.out)).mono ?_; rintro e w1 ⟨rfl, S2, hm2, ht2⟩; obtain ⟨fn, tmps, assign, body, hy, hR⟩ := hY false (by rw [HT.out, HUN.out]; simp) (hJ.turn hj hm2 (ht2.more U1)) (3 - 1))
          refine hR.mono ?_
          rintro e W3 (⟨rfl, hJ3, -⟩ | ⟨rfl, hJx3, -⟩)
          · gi_wp2
            go_roundw
            case rel => exact ⟨pre ++ [false], Y1, _, _, n, by simp, by simp; omega, hJ3, hfew, by rw [HT.out, HUN.out]; simp⟩
            case measure => simp [intOf]; omega
          · gi_wp2
            refine bodyPost_ret (results_none rfl _ _ _) rfl ?_
            rw [HT.out, HUN.out]
            exact ⟨⟨_, rfl⟩, .inr ⟨pre ++ [false], _, _, _, by simp, hJx3⟩⟩
      · gi_wp2_with (refine ⟨trivial, ?_⟩; gi_at_call 53; refine (callsIn_wide.2 (C _ HM.out)).mono ?_; rintro e w1 ⟨rfl, S2, hm2, ht2⟩)
        refine ⟨fun _ h => (by cases h), ?_⟩
        gi_wp2
        refine bodyPost_ret (results_none rfl _ _ _) rfl ?_
        rw [HT.out, HUN.out, if_neg her]
        exact ⟨⟨_, rfl⟩, .inl ⟨S2, U1, by simpa using hJ.turn hj hm2 (ht2.more U1)⟩⟩

set_option maxHeartbeats 400000 in
theorem every_ok (v : Value) (k most : Int) (w : World) :
    Calls Try.prog 71 #[.agg #[v, .int .i64 k], .int .i64 most] w fun e w' => e = .returned (.func (.func 98) #[] #[.pointer (some ⟨w.heap.size + 1, 0, none⟩), .pointer (some ⟨w.heap.size, 0, none⟩)]) ∧
      w' = (w.alloc (.cells #[v, .int .i64 k] 109)).alloc (.cells #[.int .i64 most] 3) := by
  go_enter Try.func71, Try.ntmps71
  go_wp2
  go_ret
  exact ⟨rfl, rfl⟩

set_option maxHeartbeats 400000 in
theorem Tries_ok (a : Option Addr) (k most : Int) (w : World) :
    Calls Try.prog 34 #[.pointer a, .int .i64 k, .int .i64 most] w fun e w' => e = .returned (.func (.func 70) #[] #[.pointer (some ⟨w.heap.size, 0, none⟩), .pointer (some ⟨w.heap.size + 1, 0, none⟩), .pointer (some ⟨w.heap.size + 1 + 1, 0, none⟩)]) ∧
      w' = ((w.alloc (.cells #[.pointer a] 24)).alloc (.cells #[.int .i64 k] 3)).alloc (.cells #[.int .i64 most] 3) := by
  go_enter Try.func34, Try.ntmps34
  go_wp2
  go_ret
  exact ⟨rfl, rfl⟩

end Go.Proofs.Ytejbeioiomjbpaa

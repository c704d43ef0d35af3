/-
  Layer 12: New, Claim, Unclaim, Take, Settle, Look.
-/
import Derived.Test.YtejbeioiomjbpaaMixC
import Derived.Test.YtejbeioiomjbpaaSpin1
namespace Go.Proofs.Ytejbeioiomjbpaa
open Go.RowKit

/-- What a flag had, as an access tells it. -/
def hadOf (v no : Int) : Int × Int := if no = 0 then (if 2 < v then (0, 120) else (v, 0)) else (0, no)

theorem acc_old {w : World} {v : Value} {X : Option Ar} {S : List Nat} {op k : Int} {f : Int → Int × Bool} (h : Mem w v X S) : 0 ≤ (acc X op k f).2.1 ∧ (acc X op k f).2.1 < 18446744073709551616 := by
  cases X with
  | none => simp [acc]
  | some A =>
    obtain ⟨p, _, hA⟩ := h
    have hu := hA.1.u64
    simp only [acc]
    split
    · rename_i hk
      simp only [Ar.val]
      have hlt : k.toNat < A.cells.length := by omega
      have := hu (A.cells[k.toNat]'hlt) (List.getElem_mem hlt)
      simpa [hlt] using this
    · simp

theorem flagNew_any (v : Value) (X : Option Ar) (S : List Nat) (w : World) (h : Mem w v X S) :
    Calls Try.prog 35 #[v] w fun e w' => e = .returned (.tuple #[.int .i64 (allot X 1).2.1, .int .i64 (allot X 1).2.2]) ∧ ∃ S', Mem w' v (allot X 1).1 S' ∧ Turn S S' w w' := by
  have H := Lib.hid h
  clear h
  go_enter Try.func35, Try.ntmps35
  go_wp2_with (go_at_call 21; refine (Alloc_any _ X S 1 _ H.out).mono ?_; rintro e w2 ⟨rfl, S', hm2, ht2⟩; have HM2 := Lib.hid hm2; have HT2 := Lib.hid ht2; clear hm2 ht2)
  go_ret2
  exact ⟨rfl, S', HM2.out, HT2.out⟩

set_option maxRecDepth 100000 in
theorem look1_ok (v : Value) (X : Option Ar) (S : List Nat) (k : Int) (w : World) (h : Mem w v X S) (hm : Few X 1) (bx bk : Nat) (hx : Blk w bx #[v] 24) (hk : Blk w bk #[.int .i64 k] 3) :
    Calls Try.prog 74 #[.pointer (some ⟨bx, 0, none⟩), .pointer (some ⟨bk, 0, none⟩)] w fun e w' => e = .returned (.tuple #[.int .u64 (acc X 1 k fLoad).2.1, .int .i64 (acc X 1 k fLoad).2.2.2]) ∧ ∃ S', Mem w' v (acc X 1 k fLoad).1 S' ∧ Turn S S' w w' := by
  have H := Lib.hid h
  have HM := Lib.hid hm
  have c0 := hx.cell 0
  have c1 := hk.cell 0
  simp at c0 c1
  clear h hm hx hk
  go_enter Try.func74, Try.ntmps74
  go_wp2_with (go_at_call 22; refine (Load_any _ X S k _ H.out HM.out).mono ?_; rintro e w2 ⟨rfl, S', hm2, ht2⟩; have HM2 := Lib.hid hm2; have HT2 := Lib.hid ht2; clear hm2 ht2)
  go_ret2
  exact ⟨rfl, S', HM2.out, HT2.out⟩

set_option maxRecDepth 100000 in
theorem swapped1_ok (v : Value) (X : Option Ar) (S : List Nat) (k by_ : Int) (w : World) (h : Mem w v X S) (hm : Few X 1) (hby : 0 ≤ by_ ∧ by_ ≤ 2) (bx bk bb : Nat) (hx : Blk w bx #[v] 24) (hk : Blk w bk #[.int .i64 k] 3) (hb : Blk w bb #[.int .i64 by_] 77) :
    Calls Try.prog 99 #[.pointer (some ⟨bx, 0, none⟩), .pointer (some ⟨bk, 0, none⟩), .pointer (some ⟨bb, 0, none⟩)] w fun e w' =>
      e = .returned (.tuple #[.int .u64 (acc X 3 k (fSwap 0 by_)).2.1, .int .i64 (acc X 3 k (fSwap 0 by_)).2.2.2]) ∧ ∃ S', Mem w' v (acc X 3 k (fSwap 0 by_)).1 S' ∧ Turn S S' w w' := by
  have H := Lib.hid h
  have HM := Lib.hid hm
  have c0 := hx.cell 0
  have c1 := hk.cell 0
  have c2 := hb.cell 0
  simp at c0 c1 c2
  have hb0 := hby.1
  have hb1 := hby.2
  clear h hm hx hk hb hby
  go_enter Try.func99, Try.ntmps99
  go_wp2_with (go_at_call 24; refine (Swap_any _ X S k 0 by_ _ H.out HM.out (by omega)).mono ?_; rintro e w2 ⟨rfl, S', hm2, ht2⟩; have HM2 := Lib.hid hm2; have HT2 := Lib.hid ht2; clear hm2 ht2)
  go_ret2
  exact ⟨rfl, S', HM2.out, HT2.out⟩

set_option maxRecDepth 100000 in
theorem had_look (v : Value) (X : Option Ar) (S : List Nat) (k : Int) (w : World) (h : Mem w v X S) (hm : Few X 1) (bx bk : Nat) (hx : Blk w bx #[v] 24) (hk : Blk w bk #[.int .i64 k] 3) :
    Calls Try.prog 73 #[.func (.func 74) #[] #[.pointer (some ⟨bx, 0, none⟩), .pointer (some ⟨bk, 0, none⟩)]] w fun e w' =>
      e = .returned (.tuple #[.int .i64 (hadOf (acc X 1 k (fLoad)).2.1 (acc X 1 k (fLoad)).2.2.2).1, .int .i64 (hadOf (acc X 1 k (fLoad)).2.1 (acc X 1 k (fLoad)).2.2.2).2]) ∧ ∃ S', Mem w' v (acc X 1 k (fLoad)).1 S' ∧ Turn S S' w w' := by
  have hbd := acc_old (op := 1) (k := k) (f := fLoad) h
  have C := look1_ok v X S k w h hm bx bk hx hk
  obtain ⟨X', ov, dd, er, hacc⟩ : ∃ X' ov dd er, acc X 1 k (fLoad) = (X', ov, dd, er) := ⟨_, _, _, _, rfl⟩
  rw [hacc] at C hbd ⊢
  dsimp only at C hbd ⊢
  have h0 := hbd.1
  have h1 := hbd.2
  clear hbd hacc h
  go_enter Try.func73, Try.ntmps73
  go_wp2_with fail
  refine wp_scope_fwd 0 rfl ?_
  by_cases he : er = 0
  · subst he
    by_cases hgt : 2 < ov
    · go_wp2_with (go_at_call 74; refine C.mono ?_; clear C; rintro e w2 ⟨rfl, S', hm2, ht2⟩; have HM2 := Lib.hid hm2; have HT2 := Lib.hid ht2; clear hm2 ht2)
      go_step3
      go_wp2
      refine jump_goto ?_
      go_wp2
      rw [Exit.noGoto_ret]
      go_ret2
      exact ⟨by simp [hadOf, hgt], S', HM2.out, HT2.out⟩
    · go_wp2_with (go_at_call 74; refine C.mono ?_; clear C; rintro e w2 ⟨rfl, S', hm2, ht2⟩; have HM2 := Lib.hid hm2; have HT2 := Lib.hid ht2; clear hm2 ht2)
      refine jump_ret ?_
      go_ret2
      have e : hadOf ov 0 = (ov, 0) := by rw [hadOf, if_pos rfl, if_neg (by omega)]
      exact ⟨by rw [e]; rfl, S', HM2.out, HT2.out⟩
  · go_wp2_with (go_at_call 74; refine C.mono ?_; clear C; rintro e w2 ⟨rfl, S', hm2, ht2⟩; have HM2 := Lib.hid hm2; have HT2 := Lib.hid ht2; clear hm2 ht2)
    go_step3
    go_wp2
    refine jump_goto ?_
    go_wp2
    rw [Exit.noGoto_ret]
    go_ret2
    exact ⟨by simp [hadOf, he], S', HM2.out, HT2.out⟩

set_option maxRecDepth 100000 in
theorem had_swap (v : Value) (X : Option Ar) (S : List Nat) (k by_ : Int) (w : World) (h : Mem w v X S) (hm : Few X 1) (hby : 0 ≤ by_ ∧ by_ ≤ 2) (bx bk bb : Nat) (hx : Blk w bx #[v] 24) (hk : Blk w bk #[.int .i64 k] 3) (hb : Blk w bb #[.int .i64 by_] 77) :
    Calls Try.prog 73 #[.func (.func 99) #[] #[.pointer (some ⟨bx, 0, none⟩), .pointer (some ⟨bk, 0, none⟩), .pointer (some ⟨bb, 0, none⟩)]] w fun e w' =>
      e = .returned (.tuple #[.int .i64 (hadOf (acc X 3 k (fSwap 0 by_)).2.1 (acc X 3 k (fSwap 0 by_)).2.2.2).1, .int .i64 (hadOf (acc X 3 k (fSwap 0 by_)).2.1 (acc X 3 k (fSwap 0 by_)).2.2.2).2]) ∧ ∃ S', Mem w' v (acc X 3 k (fSwap 0 by_)).1 S' ∧ Turn S S' w w' := by
  have hbd := acc_old (op := 3) (k := k) (f := fSwap 0 by_) h
  have C := swapped1_ok v X S k by_ w h hm hby bx bk bb hx hk hb
  obtain ⟨X', ov, dd, er, hacc⟩ : ∃ X' ov dd er, acc X 3 k (fSwap 0 by_) = (X', ov, dd, er) := ⟨_, _, _, _, rfl⟩
  rw [hacc] at C hbd ⊢
  dsimp only at C hbd ⊢
  have h0 := hbd.1
  have h1 := hbd.2
  clear hbd hacc h
  go_enter Try.func73, Try.ntmps73
  go_wp2_with fail
  refine wp_scope_fwd 0 rfl ?_
  by_cases he : er = 0
  · subst he
    by_cases hgt : 2 < ov
    · go_wp2_with (go_at_call 99; refine C.mono ?_; clear C; rintro e w2 ⟨rfl, S', hm2, ht2⟩; have HM2 := Lib.hid hm2; have HT2 := Lib.hid ht2; clear hm2 ht2)
      go_step3
      go_wp2
      refine jump_goto ?_
      go_wp2
      rw [Exit.noGoto_ret]
      go_ret2
      exact ⟨by simp [hadOf, hgt], S', HM2.out, HT2.out⟩
    · go_wp2_with (go_at_call 99; refine C.mono ?_; clear C; rintro e w2 ⟨rfl, S', hm2, ht2⟩; have HM2 := Lib.hid hm2; have HT2 := Lib.hid ht2; clear hm2 ht2)
      refine jump_ret ?_
      go_ret2
      have e : hadOf ov 0 = (ov, 0) := by rw [hadOf, if_pos rfl, if_neg (by omega)]
      exact ⟨by rw [e]; rfl, S', HM2.out, HT2.out⟩
  · go_wp2_with (go_at_call 99; refine C.mono ?_; clear C; rintro e w2 ⟨rfl, S', hm2, ht2⟩; have HM2 := Lib.hid hm2; have HT2 := Lib.hid ht2; clear hm2 ht2)
    go_step3
    go_wp2
    refine jump_goto ?_
    go_wp2
    rw [Exit.noGoto_ret]
    go_ret2
    exact ⟨by simp [hadOf, he], S', HM2.out, HT2.out⟩

set_option maxRecDepth 100000 in
theorem Look_any (v : Value) (X : Option Ar) (S : List Nat) (k : Int) (w : World) (h : Mem w v X S) (hm : Few X 1) (hv : ∃ a, v = .pointer a) :
    Calls Try.prog 38 #[v, .int .i64 k] w fun e w' =>
      e = .returned (.tuple #[.int .i64 (hadOf (acc X 1 k fLoad).2.1 (acc X 1 k fLoad).2.2.2).1, .int .i64 (hadOf (acc X 1 k fLoad).2.1 (acc X 1 k fLoad).2.2.2).2]) ∧ ∃ S', Mem w' v (acc X 1 k fLoad).1 S' ∧ Turn S S' w w' := by
  obtain ⟨a, rfl⟩ := hv
  have C := had_look (.pointer a) X S k ((w.alloc (.cells #[.pointer a] 24)).alloc (.cells #[.int .i64 k] 3)) ((h.alloc _).alloc _) hm w.heap.size (w.heap.size + 1) ((Blk.new _ _ _).alloc _) (Blk.new' _ _ (by simp))
  clear h hm
  go_enter Try.func38, Try.ntmps38
  go_wp2_with (go_at_call 73; refine C.mono ?_; clear C; rintro e w2 ⟨rfl, S', hm2, ht2⟩; have HM2 := Lib.hid hm2; have HT2 := Lib.hid ht2; clear hm2 ht2)
  go_ret2
  exact ⟨rfl, S', HM2.out, .from (((Keeps.refl _ _).alloc _).alloc _) HT2.out⟩

set_option maxRecDepth 100000 in
theorem swapped_any (v : Value) (X : Option Ar) (S : List Nat) (k by_ : Int) (w : World) (h : Mem w v X S) (hm : Few X 1) (hby : 0 ≤ by_ ∧ by_ ≤ 2) (hv : ∃ a, v = .pointer a) :
    Calls Try.prog 72 #[v, .int .i64 k, .int .i64 by_] w fun e w' =>
      e = .returned (.tuple #[.int .i64 (hadOf (acc X 3 k (fSwap 0 by_)).2.1 (acc X 3 k (fSwap 0 by_)).2.2.2).1, .int .i64 (hadOf (acc X 3 k (fSwap 0 by_)).2.1 (acc X 3 k (fSwap 0 by_)).2.2.2).2]) ∧ ∃ S', Mem w' v (acc X 3 k (fSwap 0 by_)).1 S' ∧ Turn S S' w w' := by
  obtain ⟨a, rfl⟩ := hv
  have C := had_swap (.pointer a) X S k by_ (((w.alloc (.cells #[.pointer a] 24)).alloc (.cells #[.int .i64 k] 3)).alloc (.cells #[.int .i64 by_] 77)) (((h.alloc _).alloc _).alloc _) hm hby w.heap.size (w.heap.size + 1) (w.heap.size + 1 + 1) (((Blk.new _ _ _).alloc _).alloc _) ((Blk.new' _ _ (by simp)).alloc _) (Blk.new' _ _ (by simp))
  clear h hm
  go_enter Try.func72, Try.ntmps72
  go_wp2_with (go_at_call 73; refine C.mono ?_; clear C; rintro e w2 ⟨rfl, S', hm2, ht2⟩; have HM2 := Lib.hid hm2; have HT2 := Lib.hid ht2; clear hm2 ht2)
  go_ret2
  exact ⟨rfl, S', HM2.out, .from ((((Keeps.refl _ _).alloc _).alloc _).alloc _) HT2.out⟩

theorem Claim_any (v : Value) (X : Option Ar) (S : List Nat) (k : Int) (w : World) (h : Mem w v X S) (hm : Few X 1) (hv : ∃ a, v = .pointer a) :
    Calls Try.prog 36 #[v, .int .i64 k] w fun e w' =>
      e = .returned (.tuple #[.int .i64 (hadOf (acc X 3 k (fSwap 0 1)).2.1 (acc X 3 k (fSwap 0 1)).2.2.2).1, .int .i64 (hadOf (acc X 3 k (fSwap 0 1)).2.1 (acc X 3 k (fSwap 0 1)).2.2.2).2]) ∧ ∃ S', Mem w' v (acc X 3 k (fSwap 0 1)).1 S' ∧ Turn S S' w w' := by
  have C := fun W h => swapped_any v X S k 1 W h hm (by omega) hv
  have H := Lib.hid h
  clear h hm hv
  go_enter Try.func36, Try.ntmps36
  go_wp2_with (go_at_call 72; refine (C _ H.out).mono ?_; clear C; rintro e w2 ⟨rfl, S', hm2, ht2⟩; have HM2 := Lib.hid hm2; have HT2 := Lib.hid ht2; clear hm2 ht2)
  go_ret2
  exact ⟨rfl, S', HM2.out, HT2.out⟩

theorem Take_any (v : Value) (X : Option Ar) (S : List Nat) (k : Int) (w : World) (h : Mem w v X S) (hm : Few X 1) (hv : ∃ a, v = .pointer a) :
    Calls Try.prog 37 #[v, .int .i64 k] w fun e w' =>
      e = .returned (.tuple #[.int .i64 (hadOf (acc X 3 k (fSwap 0 2)).2.1 (acc X 3 k (fSwap 0 2)).2.2.2).1, .int .i64 (hadOf (acc X 3 k (fSwap 0 2)).2.1 (acc X 3 k (fSwap 0 2)).2.2.2).2]) ∧ ∃ S', Mem w' v (acc X 3 k (fSwap 0 2)).1 S' ∧ Turn S S' w w' := by
  have C := fun W h => swapped_any v X S k 2 W h hm (by omega) hv
  have H := Lib.hid h
  clear h hm hv
  go_enter Try.func37, Try.ntmps37
  go_wp2_with (go_at_call 72; refine (C _ H.out).mono ?_; clear C; rintro e w2 ⟨rfl, S', hm2, ht2⟩; have HM2 := Lib.hid hm2; have HT2 := Lib.hid ht2; clear hm2 ht2)
  go_ret2
  exact ⟨rfl, S', HM2.out, HT2.out⟩

theorem Unclaim_any (v : Value) (X : Option Ar) (S : List Nat) (k : Int) (w : World) (h : Mem w v X S) (hm : Few X 1) :
    Calls Try.prog 40 #[v, .int .i64 k] w fun e w' => e = .returned (.int .i64 (acc X 2 k (fStore 0)).2.2.2) ∧ ∃ S', Mem w' v (acc X 2 k (fStore 0)).1 S' ∧ Turn S S' w w' := by
  have H := Lib.hid h
  have HM := Lib.hid hm
  clear h hm
  go_enter Try.func40, Try.ntmps40
  go_wp2_with (go_at_call 23; refine (Store_any _ X S k 0 _ H.out HM.out (by omega)).mono ?_; rintro e w2 ⟨rfl, S', hm2, ht2⟩; have HM2 := Lib.hid hm2; have HT2 := Lib.hid ht2; clear hm2 ht2)
  go_ret
  exact ⟨rfl, S', HM2.out, HT2.out⟩

theorem Settle_any (v : Value) (X : Option Ar) (S : List Nat) (k : Int) (w : World) (h : Mem w v X S) (hm : Few X 1) :
    Calls Try.prog 41 #[v, .int .i64 k] w fun e w' => e = .returned (.int .i64 (acc X 2 k (fStore 2)).2.2.2) ∧ ∃ S', Mem w' v (acc X 2 k (fStore 2)).1 S' ∧ Turn S S' w w' := by
  have H := Lib.hid h
  have HM := Lib.hid hm
  clear h hm
  go_enter Try.func41, Try.ntmps41
  go_wp2_with (go_at_call 23; refine (Store_any _ X S k 2 _ H.out HM.out (by omega)).mono ?_; rintro e w2 ⟨rfl, S', hm2, ht2⟩; have HM2 := Lib.hid hm2; have HT2 := Lib.hid ht2; clear hm2 ht2)
  go_ret
  exact ⟨rfl, S', HM2.out, HT2.out⟩

end Go.Proofs.Ytejbeioiomjbpaa

/-
  Layer 1: the chapter's rows.
-/
import Derived.Test.YtejbeioiomjbpaaStay2
namespace Go.Proofs.Ytejbeioiomjbpaa
open Go.RowKit Go.Shelf
attribute [local go_sem] Oper.semAt_some

@[go_sem] theorem eql_seqUA (f : Fn) (r cs : Array Value) (w : World) : (binOp .eql 50 (.func f r cs) .nilFunc).run Try.prog w = .ok (.bool false) w :=
  run_eql_func_nil w _ f r cs Try.underlying50

theorem num01_ok (k : Int) (w : World) : Calls Try.prog 28 #[.int .i64 k] w fun e w' => e = .returned (.int .i64 k) ∧ w = w' := by
  go_enter Try.func28, Try.ntmps28
  go_wp2
  go_ret
  exact ⟨rfl, rfl⟩

namespace W1
def X0 : Option Ar := (newOf 3).1
def X1 : Option Ar := (allot X0 2).1
def X2 : Option Ar := (allot X1 2).1
def X3 : Option Ar := (allot X2 0).1
def X4 : Option Ar := (allot X3 (-1)).1
def X5 : Option Ar := (acc X4 2 1 (fStore 7)).1
def X6 : Option Ar := (acc X5 1 1 fLoad).1
def X7 : Option Ar := (acc X6 1 2 fLoad).1
def X8 : Option Ar := (acc X7 3 1 (fSwap 7 9)).1
def X9 : Option Ar := (acc X8 3 1 (fSwap 7 8)).1
def X10 : Option Ar := (acc X9 4 1 (fAdd 18446744073709551615)).1
def X11 : Option Ar := (acc X10 1 1 fLoad).1
theorem n0 : X0 = none → False := fun h => nomatch h
theorem e0 : newOf 3 = (X0, 0) := rfl
theorem e1 : allot X0 2 = (X1, 0, 0) := rfl
theorem e2 : allot X1 2 = (X2, 0, 6) := rfl
theorem e3 : allot X2 0 = (X3, 2, 0) := rfl
theorem e4 : allot X3 (-1) = (X4, 0, 2) := rfl
theorem e5 : acc X4 2 1 (fStore 7) = (X5, 0, true, 0) := rfl
theorem e6 : acc X5 1 1 fLoad = (X6, 7, true, 0) := rfl
theorem e7 : acc X6 1 2 fLoad = (X7, 0, false, 4) := rfl
theorem e8 : acc X7 3 1 (fSwap 7 9) = (X8, 7, true, 0) := rfl
theorem e9 : acc X8 3 1 (fSwap 7 8) = (X9, 9, false, 0) := rfl
theorem e10 : acc X9 4 1 (fAdd 18446744073709551615) = (X10, 9, true, 0) := rfl
theorem e11 : acc X10 1 1 fLoad = (X11, 8, true, 0) := rfl
theorem e12 : newOf 0 = (none, 2) := rfl
theorem e13 : newOf 65537 = (none, 2) := rfl
theorem w4 : Few X4 20 := fun A e => by unfold X4 at e; cases e; decide
theorem w5 : Few X5 20 := fun A e => by unfold X5 at e; cases e; decide
theorem w6 : Few X6 20 := fun A e => by unfold X6 at e; cases e; decide
theorem w7 : Few X7 20 := fun A e => by unfold X7 at e; cases e; decide
theorem w8 : Few X8 20 := fun A e => by unfold X8 at e; cases e; decide
theorem w9 : Few X9 20 := fun A e => by unfold X9 at e; cases e; decide
theorem w10 : Few X10 20 := fun A e => by unfold X10 at e; cases e; decide
theorem m11 : ∀ A, X11 = some A → A.many ≤ 1024 := fun A e => by unfold X11 at e; cases e; decide
theorem c11 : countOf X11 = 6 := rfl
theorem r11 : ringOf X11 = [⟨2, 1, 0, 7, true⟩, ⟨1, 1, 7, 7, true⟩, ⟨3, 1, 7, 9, true⟩, ⟨3, 1, 9, 9, false⟩, ⟨4, 1, 9, 8, true⟩, ⟨1, 1, 8, 8, true⟩] := rfl
attribute [irreducible] X0 X1 X2 X3 X4 X5 X6 X7 X8 X9 X10 X11
end W1

theorem new_bad_stay {σ : Type} {M : World → σ → List Nat → Prop} (hM : Framed M) {w0 : World} {S0 : List Nat} {F : List (Nat × Obj)} {x : σ} {S : List Nat} {W : World} (h : stay M w0 S0 F x S W) (m : Int) (hm : m < 1 ∨ 65536 < m) :
    Calls Try.prog 14 #[.int .i64 m] W fun e W' => e = .returned (.tuple #[.pointer none, .int .i64 2]) ∧ stay M w0 S0 F x S W' :=
  (New_bad m hm W).mono fun _ _ ⟨he, hk⟩ => ⟨he, h.keep hM hk⟩

theorem add_lit (v : Value) (S : List Nat) (w : World) (n : Int) (hn : n = 18446744073709551615) (hm : Mem w v W1.X9 S) :
    Calls Try.prog 25 #[v, .int .i64 1, .int .u64 n] w fun e w' => e = .returned (.tuple #[.int .u64 9, .int .i64 0]) ∧ ∃ S', Mem w' v W1.X10 S' ∧ Turn S S' w w' := by
  subst hn
  have C := Add_any v W1.X9 S 1 18446744073709551615 w hm (W1.w9.le (by omega))
  rw [W1.e10] at C
  exact C

/-- What 'third' holds behind so many rounds. -/
def third (pre : List Acc) : List Value := if pre.length ≤ 2 then [.int .i64 0, .int .i64 0, .int .u64 0, .int .u64 0, .bool false] else [.int .i64 3, .int .i64 1, .int .u64 7, .int .u64 9, .bool true]

set_option maxRecDepth 100000 in
set_option maxHeartbeats 600000 in
theorem works01_ok (w : World) : Calls Try.prog 20 #[] w fun e w' => e = .returned (.bool true) ∧ Keeps Nothing w w' := by
  refine calls_of_wpN Try.func20 rfl ?_
  simp only [Try.ntmps20, List.size_toArray, List.length_cons, List.length_nil, Nat.reduceAdd, Nat.reduceSub, Array.replicate_succ, Array.replicate_zero, List.push_toArray, List.append_toArray, List.nil_append, List.cons_append]
  go_wp2_with first
    | (go_at_call 14; refine (new_bad_stay (atMem_framed _) hs _ (by decide)).mono ?_; rintro e w2 ⟨rfl, hs2⟩; replace hs := hs2; clear hs2)
    | (go_at_call 14; have C := New_any 3 w; rw [W1.e0] at C; refine C.mono ?_; clear C; rintro e w2 ⟨v, S, rfl, hm, hS, hk, hv | ⟨-, q, rfl⟩⟩; exact absurd hv.1 W1.n0; have hs := stay.start0 (M := AtMem (.pointer (some ⟨q, 0, none⟩))) hm hk hS; have hv : ∃ b, Value.pointer (some ⟨q, 0, none⟩) = .pointer b := ⟨_, rfl⟩; clear hm hk hS)
    | (go_at_call 21; have C := Alloc_any (.pointer (some ⟨q, 0, none⟩)) W1.X0 _ 2 _ hs.mem; rw [W1.e1] at C; refine (stay_call hs C).mono ?_; clear C; rintro e w2 ⟨rfl, S2, hs2⟩; replace hs := hs2; clear hs2)
    | (go_at_call 21; have C := Alloc_any (.pointer (some ⟨q, 0, none⟩)) W1.X1 _ 2 _ hs.mem; rw [W1.e2] at C; refine (stay_call hs C).mono ?_; clear C; rintro e w2 ⟨rfl, S2, hs2⟩; replace hs := hs2; clear hs2)
    | (go_at_call 21; have C := Alloc_any (.pointer (some ⟨q, 0, none⟩)) W1.X2 _ 0 _ hs.mem; rw [W1.e3] at C; refine (stay_call hs C).mono ?_; clear C; rintro e w2 ⟨rfl, S2, hs2⟩; replace hs := hs2; clear hs2)
    | (go_at_call 21; have C := Alloc_any (.pointer (some ⟨q, 0, none⟩)) W1.X3 _ (-1) _ hs.mem; rw [W1.e4] at C; refine (stay_call hs C).mono ?_; clear C; rintro e w2 ⟨rfl, S2, hs2⟩; replace hs := hs2; clear hs2)
    | (go_at_call 23; have C := Store_any (.pointer (some ⟨q, 0, none⟩)) W1.X4 _ 1 7 _ hs.mem (W1.w4.le (by omega)) (by omega); rw [W1.e5] at C; refine (stay_call hs C).mono ?_; clear C; rintro e w2 ⟨rfl, S2, hs2⟩; replace hs := hs2; clear hs2)
    | (go_at_call 22; have C := Load_any (.pointer (some ⟨q, 0, none⟩)) W1.X5 _ 1 _ hs.mem (W1.w5.le (by omega)); rw [W1.e6] at C; refine (stay_call hs C).mono ?_; clear C; rintro e w2 ⟨rfl, S2, hs2⟩; replace hs := hs2; clear hs2)
    | (go_at_call 22; have C := Load_any (.pointer (some ⟨q, 0, none⟩)) W1.X6 _ 2 _ hs.mem (W1.w6.le (by omega)); rw [W1.e7] at C; refine (stay_call hs C).mono ?_; clear C; rintro e w2 ⟨rfl, S2, hs2⟩; replace hs := hs2; clear hs2)
    | (go_at_call 28; refine (num01_ok _ _).mono ?_; rintro e w' ⟨rfl, rfl⟩)
    | (go_at_call 24; have C := Swap_any (.pointer (some ⟨q, 0, none⟩)) W1.X7 _ 1 7 9 _ hs.mem (W1.w7.le (by omega)) (by omega); rw [W1.e8] at C; refine (stay_call hs C).mono ?_; clear C; rintro e w2 ⟨rfl, S2, hs2⟩; replace hs := hs2; clear hs2)
    | (go_at_call 24; have C := Swap_any (.pointer (some ⟨q, 0, none⟩)) W1.X8 _ 1 7 8 _ hs.mem (W1.w8.le (by omega)) (by omega); rw [W1.e9] at C; refine (stay_call hs C).mono ?_; clear C; rintro e w2 ⟨rfl, S2, hs2⟩; replace hs := hs2; clear hs2)
    | (go_at_call 25; refine (stay_call hs (add_lit _ _ _ _ (by decide) hs.mem)).mono ?_; rintro e w2 ⟨rfl, S2, hs2⟩; replace hs := hs2; clear hs2)
    | (go_at_call 22; have C := Load_any (.pointer (some ⟨q, 0, none⟩)) W1.X10 _ 1 _ hs.mem (W1.w10.le (by omega)); rw [W1.e11] at C; refine (stay_call hs C).mono ?_; clear C; rintro e w2 ⟨rfl, S2, hs2⟩; replace hs := hs2; clear hs2)
    | (go_at_call 27; refine (Log_stay hs (atMem_framed _) W1.m11).mono ?_; rintro e w2 ⟨bl, bf, u, G, rfl, hs2, hlog, hnew⟩; rw [List.append_nil] at hs2; replace hs := hs2; clear hs2)
  have hb := hs.box (atMem_framed _) (.cells (third []).toArray 54)
  obtain ⟨bt, hbt⟩ : ∃ bt, w2.heap.size = bt := ⟨_, rfl⟩
  obtain ⟨w3, hw3⟩ : ∃ w3, w2.alloc (.cells (third []).toArray 54) = w3 := ⟨_, rfl⟩
  rw [hw3, hbt] at hb
  rw [show w2.alloc (.cells #[.int .i64 0, .int .i64 0, .int .u64 0, .int .u64 0, .bool false] 54) = w3 from hw3]
  rw [hbt]
  have hne : bt ∉ own G := fun h => by
    have := hs.lie.lt h
    omega
  clear hw3 hs
  have hq := Log1_seq (M := AtMem (.pointer (some ⟨q, 0, none⟩))) (atMem_framed _) W1.X11 bl bf u 0 (ringOf W1.X11) (by rw [W1.r11]; decide) (by omega)
  rw [W1.r11] at hq hlog
  refine wp_range_seqB (atMem_framed (.pointer (some ⟨q, 0, none⟩))) hq rfl (enters_of Try.func65 (by kernel_rfl) rfl) (fun _ _ => rfl)
    (fun X S U pre W => inner (base (AtMem (.pointer (some ⟨q, 0, none⟩))) w []) ((bt, .cells (third pre).toArray 54 (0, 0)) :: G) X S U pre W) (fun _ _ _ _ _ _ => False)
    ⟨fun h => (inner_rides base_rides _).mem h, fun h hm ht => (inner_rides base_rides _).turn h hm ht⟩ (fun _ => ⟨fun h => h.elim, fun h => h.elim⟩)
    (fun h => hlog _ fun y hy => h.2.1 y (by simp [hy])) _ (hb.to_loop []) ?round ?done ?stop
  case round =>
    intro l2 m x S3 U3 pre b W3 hpre hj hl hlU hlS
    have hlen := hpre.length_le
    simp only [List.length_append, List.length_cons, List.length_nil] at hlen
    have hk : Keeps Nothing W3 (W3.alloc (.cells b.enc.toArray 54)) := (Keeps.refl _ _).alloc _
    have hj1 := (inner_rides base_rides _).turn hj ((atMem_framed _).keep hj.1.1 fun k hk' => hk.block k ((atMem_framed _).lt hj.1.1 k hk') id) ⟨hk.nothing, fun _ h => .inl h⟩
    have hbx : Blk (W3.alloc (.cells b.enc.toArray 54)) W3.heap.size b.enc.toArray 54 := Blk.new _ _ _
    have HJ := Lib.hid hj1
    have HX := Lib.hid hbx
    have HK := Lib.hid hk
    clear hj1 hbx hk hj
    simp only [Acc.enc] at HJ HX HK ⊢
    gi_wp2
    refine ⟨HJ.out, ⟨HK.out.size, fun k _ hlt => HK.out.block k hlt id⟩, ?_⟩
    intro o hj2
    have hbx := HX.out.put (Nat.ne_of_gt hl) o
    obtain ⟨W4, hW4⟩ : ∃ W4, ((W3.alloc (.cells #[.int .i64 b.op, .int .i64 b.at_, .int .u64 b.old, .int .u64 b.new, .bool b.did] 54)).putObj l2 o) = W4 := ⟨_, rfl⟩
    rw [hW4] at hbx hj2 ⊢
    clear hW4
    have x0 := hbx.cell 0
    have x1 := hbx.cell 1
    have x2 := hbx.cell 2
    have x3 := hbx.cell 3
    have x4 := hbx.cell 4
    simp at x0 x1 x2 x3 x4
    have hbt : Blk W4 bt (third pre).toArray 54 := hj2.2.1 (bt, _) (by simp)
    have hneb := hbx.lt
    by_cases hp2 : pre.length = 2
    · have hb3 : b = ⟨3, 1, 7, 9, true⟩ := by
        obtain ⟨t, ht⟩ := hpre
        match pre, hp2, ht with
        | [p0, p1], _, ht => simp at ht; exact ht.2.2.1
      subst hb3
      have ht3 : third pre = [.int .i64 0, .int .i64 0, .int .u64 0, .int .u64 0, .bool false] := by unfold third; rw [if_pos (by omega)]
      rw [ht3] at hbt hj2
      have y0 := hbt.cell 0
      have y1 := hbt.cell 1
      have y2 := hbt.cell 2
      have y3 := hbt.cell 3
      have y4 := hbt.cell 4
      simp at y0 y1 y2 y3 y4
      have z0 := hbt.frozen 0
      have z1 := hbt.frozen 1
      have z2 := hbt.frozen 2
      have z3 := hbt.frozen 3
      have z4 := hbt.frozen 4
      have HJ2 := Lib.hid hj2
      have HB := Lib.hid hbt
      clear hj2 hbt ht3 hbx HJ HX HK
      have hd2 : (((pre.length : Nat) : Int) == 2) = true := by rw [hp2]; rfl
      have HP2 := Lib.hid hp2
      clear hp2
      gi_wp2
      have r1 := inner_setRow (atMem_framed _) HJ2.out hne 0 (.int .i64 3) pre
      have r2 := inner_setRow (atMem_framed _) r1.1 hne 1 (.int .i64 1) pre
      have r3 := inner_setRow (atMem_framed _) r2.1 hne 2 (.int .u64 7) pre
      have r4 := inner_setRow (atMem_framed _) r3.1 hne 3 (.int .u64 9) pre
      have r5 := inner_setRow (atMem_framed _) r4.1 hne 4 (.bool true) (pre ++ [⟨3, 1, 7, 9, true⟩])
      refine ⟨?_, (((r1.2.trans r2.2).trans r3.2).trans r4.2).trans r5.2⟩
      have ht4 : third (pre ++ [⟨3, 1, 7, 9, true⟩]) = [.int .i64 3, .int .i64 1, .int .u64 7, .int .u64 9, .bool true] := by
        unfold third; rw [if_neg (by have := HP2.out; simp; omega)]
      dsimp only
      rw [ht4]
      exact r5.1
    · have ht3 : third (pre ++ [b]) = third pre := by
        unfold third
        simp only [List.length_append, List.length_cons, List.length_nil]
        split <;> split <;> first | rfl | omega
      have hd2 : (((pre.length : Nat) : Int) == 2) = false := by simp; omega
      gi_wp2
      refine ⟨?_, Same.refl _ _⟩
      dsimp only
      rw [ht3]
      exact hj2
  case done =>
    intro S3 U3 Wz hj hD hDU hDS
    have hs := stay.of_loop hj hD hDU hDS
    rw [show third [⟨2, 1, 0, 7, true⟩, ⟨1, 1, 7, 7, true⟩, ⟨3, 1, 7, 9, true⟩, ⟨3, 1, 9, 9, false⟩, ⟨4, 1, 9, 8, true⟩, ⟨1, 1, 8, 8, true⟩] = [.int .i64 3, .int .i64 1, .int .u64 7, .int .u64 9, .bool true] from rfl] at hs
    clear hj hD hDU hDS
    obtain ⟨D1, hD1⟩ : ∃ D1, w3.heap.size = D1 := ⟨_, rfl⟩
    rw [hD1] at hs ⊢
    have hbt := hs.blk (b := bt) (cs := #[.int .i64 3, .int .i64 1, .int .u64 7, .int .u64 9, .bool true]) (e := 54) (by simp)
    have y0 := hbt.cell 0
    have y1 := hbt.cell 1
    have y2 := hbt.cell 2
    have y3 := hbt.cell 3
    have y4 := hbt.cell 4
    simp at y0 y1 y2 y3 y4
    clear hbt
    have CC := Count_any hs.mem
    rw [W1.c11] at CC
    have HS := Lib.hid hs
    clear hs hq hlog
    go_wp2_with first
      | (go_at_call 28; refine (num01_ok _ _).mono ?_; rintro e w' ⟨rfl, rfl⟩)
      | (go_at_call 26; refine CC.mono ?_; clear CC; rintro e w' ⟨rfl, rfl⟩)
    have hs := HS.out
    refine bodyN_ret (v := .bool true) [D1] rfl (by simpa using hs.at (b := D1) (o := .deferred (some [])) (by simp)) (by simp) (by simp [results, Try.results20, go_sem]) ⟨rfl, ?_⟩
    refine Keeps.shut hs.nothing _ ?_
    simp only [List.mem_cons, List.not_mem_nil, or_false]
    rintro D rfl
    exact .inr (hs.own_new (by simp [own]))
  case stop =>
    intro c pre x S3 U3 W4 _ h
    exact h.elim

end Go.Proofs.Ytejbeioiomjbpaa

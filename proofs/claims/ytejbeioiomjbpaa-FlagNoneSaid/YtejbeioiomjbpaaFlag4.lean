/-
  Layer 12: an act.
-/
import Derived.Test.YtejbeioiomjbpaaFlag3
import Derived.Test.YtejbeioiomjbpaaMixC
import Derived.Deep.RegionHeldLaw
import Derived.Deep.DeepCutAuto
import Derived.Deep.CutBlock
import Derived.BigGuardPart
import Derived.Deep.QuietTactic
import Derived.BigQuiet
namespace Go.Proofs.Ytejbeioiomjbpaa
open Go.RowKit
attribute [local go_sem] Oper.semAt_some undef

/-- May a step be? -/
def mayF (step : Int) (o c : Bool) : Bool := if step = 1 then o else if step = 2 ∨ step = 4 then o && c else true
/-- What the flag has behind it. -/
def thenF (step was : Int) : Int := if step = 1 then (if was = 0 then 1 else was) else if step = 2 then 0 else if step = 3 then (if was = 0 then 2 else was) else if step = 4 then 2 else was
/-- Does it follow? -/
def fits (s : Int) (c : Bool) (step : Int) (o : Bool) (was : Int) : Bool :=
  decide (1 ≤ step ∧ step ≤ 5) && (was == s) && mayF step o c && !(c && o && !(step == 2 || step == 4))

theorem run_store_func {P : Program} {w : World} {a : Addr} {m : Mode} (f : Fn) (rs cs : Array Value) : (store a (.func f rs cs) m).run P w = stored P w a (.func f rs cs) m := run_store P w a _ m rfl
theorem run_store_nilFunc {P : Program} {w : World} {a : Addr} {m : Mode} : (store a .nilFunc m).run P w = stored P w a .nilFunc m := run_store P w a _ m rfl

theorem cell_set_far' (w : World) (a p : Addr) (v : Value) (h : p.block ≠ a.block) : (w.setCell a v).cell? p = w.cell? p :=
  World.cell?_of_block (heap_setCell_other w a p.block v h)

attribute [local go_sem] run_store_func run_store_nilFunc

theorem Keeps.cell' {w W : World} (h : Keeps Nothing w W) {p : Addr} {v : Value} (hc : w.cell? p = some v) : W.cell? p = some v :=
  (World.cell?_of_block (h.block p.block (World.block_lt_of_cell? w p hc) id)).trans hc

theorem keep11 {W W' : World} {x r b5 b6 : Nat} {u0 u1 u2 u3 u4 u5 u6 u7 u8 u9 u10 : Value} (hk : Keeps Nothing W W') (h : (W.cell? ⟨x, 0, none⟩ = some u0 ∧ W.cell? ⟨x, 1, none⟩ = some u1 ∧ W.cell? ⟨x, 2, none⟩ = some u2) ∧ (W.cell? ⟨r, 0, none⟩ = some u3 ∧ W.cell? ⟨r, 1, none⟩ = some u4) ∧ (W.cell? ⟨b5, 0, none⟩ = some u5 ∧ W.cell? ⟨b5, 1, none⟩ = some u6 ∧ W.cell? ⟨b5, 2, none⟩ = some u7 ∧ W.cell? ⟨b5, 3, none⟩ = some u8) ∧ W.cell? ⟨b6, 0, none⟩ = some u9 ∧ W.cell? ⟨b6, 1, none⟩ = some u10) :
    (W'.cell? ⟨x, 0, none⟩ = some u0 ∧ W'.cell? ⟨x, 1, none⟩ = some u1 ∧ W'.cell? ⟨x, 2, none⟩ = some u2) ∧ (W'.cell? ⟨r, 0, none⟩ = some u3 ∧ W'.cell? ⟨r, 1, none⟩ = some u4) ∧ (W'.cell? ⟨b5, 0, none⟩ = some u5 ∧ W'.cell? ⟨b5, 1, none⟩ = some u6 ∧ W'.cell? ⟨b5, 2, none⟩ = some u7 ∧ W'.cell? ⟨b5, 3, none⟩ = some u8) ∧ W'.cell? ⟨b6, 0, none⟩ = some u9 ∧ W'.cell? ⟨b6, 1, none⟩ = some u10 := by
  obtain ⟨⟨h0, h1, h2⟩, ⟨h3, h4⟩, ⟨h5, h6, h7, h8⟩, h9, h10⟩ := h
  exact ⟨⟨hk.cell' h0, hk.cell' h1, hk.cell' h2⟩, ⟨hk.cell' h3, hk.cell' h4⟩, ⟨hk.cell' h5, hk.cell' h6, hk.cell' h7, hk.cell' h8⟩, hk.cell' h9, hk.cell' h10⟩

set_option maxRecDepth 100000 in
set_option maxHeartbeats 4000000 in
theorem does0_ok (r : Nat) (s was k : Int) (c o : Bool) (w : World) (hr : Blk w r #[.int .i64 s, .bool c] 142) (hk : k < 1 ∨ 5 < k) :
    Calls Try.prog 78 #[.pointer (some ⟨r, 0, none⟩), .agg #[.int .i64 k, .bool o, .int .i64 was]] w fun e w' =>
      e = .returned (.bool false) ∧ Blk w' r #[.int .i64 s, .bool c] 142 ∧ Keeps (fun k => k = r) w w' := by
  have hfn : ∀ b1 b3, Instr.findNow (.int .i64) (.int .i64 k) (stepMap b1 b3).toList 0 = some none := by
    intro b1 b3
    have h1 : (k == 1) = false := by simp; omega
    have h2 : (k == 2) = false := by simp; omega
    have h3 : (k == 3) = false := by simp; omega
    have h4 : (k == 4) = false := by simp; omega
    have h5 : (k == 5) = false := by simp; omega
    simp [stepMap, Instr.findNow, Instr.sameNow, h1, h2, h3, h4, h5]
  have hz : ∀ W, (zeroValue 169).run Try.prog W = .ok (.agg #[.nilFunc, .nilFunc]) W := fun W => by simp [go_sem]
  obtain ⟨x, hx⟩ : ∃ x, w.heap.size = x := ⟨_, rfl⟩
  have hrx : r < x := by rw [← hx]; exact hr.lt
  have ha : Blk (w.alloc (.cells #[.int .i64 k, .bool o, .int .i64 was] 84)) x #[.int .i64 k, .bool o, .int .i64 was] 84 := by rw [← hx]; exact Blk.new _ _ _
  have hr1 := hr.alloc (.cells #[.int .i64 k, .bool o, .int .i64 was] 84)
  have hk1 : Keeps Nothing w (w.alloc (.cells #[.int .i64 k, .bool o, .int .i64 was] 84)) := (Keeps.refl _ _).alloc _
  have a0 := ha.cell 0
  have a1 := ha.cell 1
  have a2 := ha.cell 2
  have r0 := hr1.cell 0
  have r1 := hr1.cell 1
  simp at a0 a1 a2 r0 r1
  obtain ⟨W1, hW1⟩ : ∃ W1, w.alloc (.cells #[.int .i64 k, .bool o, .int .i64 was] 84) = W1 := ⟨_, rfl⟩
  rw [hW1] at ha hr1 hk1 a0 a1 a2 r0 r1
  have HK1 := Lib.hid hk1
  have HR := Lib.hid hr
  have HFN := Lib.hid hfn
  have HZ := Lib.hid hz
  have hlx : x < W1.heap.size := ha.lt
  clear ha hr1 hk1 hr hfn hz hk
  go_enter Try.func78, Try.ntmps78
  go_upto_region 1 with fail
  clear hW1
  refine wp_mixp (by kernel_rfl) (by kernel_rfl) ?_
  go_wp2
  refine ⟨by kernel_rfl, ?_⟩
  have hk2 : Keeps Nothing W1 (W1.alloc (.cells #[.int .i64 k, .bool o, .int .i64 was, .bool c] 165)).drew := ((Keeps.refl _ _).alloc _).drew
  have h5 : Blk (W1.alloc (.cells #[.int .i64 k, .bool o, .int .i64 was, .bool c] 165)).drew W1.heap.size #[.int .i64 k, .bool o, .int .i64 was, .bool c] 165 := (Blk.new _ _ _).drew
  obtain ⟨b5, hb5⟩ : ∃ b5, W1.heap.size = b5 := ⟨_, rfl⟩
  rw [hb5] at h5 hlx ⊢
  have a0 := hk2.cell' a0
  obtain ⟨W2, hW2⟩ : ∃ W2, (W1.alloc (.cells #[.int .i64 k, .bool o, .int .i64 was, .bool c] 165)).drew = W2 := ⟨_, rfl⟩
  rw [hW2] at hk2 h5 a0 ⊢
  have HK2 := Lib.hid hk2
  have hl5 : b5 < W2.heap.size := h5.lt
  clear hk2 h5 hW2 hb5 a1 a2 r0 r1
  go_upto_region 2 with fail
  go_cut [6, 7] from 14 to 20 (fun t6 t7 wx => ∃ b6, t6 = .pointer (some ⟨b6, 0, none⟩) ∧ t7 = .bool false ∧ Keeps Nothing W2 wx)
  case first =>
    have A0 := Lib.hid a0
    have far1 : ∀ (w : World) (v : Value) (o o' : Nat), (w.setCell ⟨W2.heap.size, o, none⟩ v).cell? ⟨x, o', none⟩ = w.cell? ⟨x, o', none⟩ := fun w v o o' => cell_set_far' _ _ _ _ (by dsimp only; omega)
    go_region_held_law (fun w' => w'.cell? ⟨x, 0, none⟩ = some (.int .i64 k))
      (first | go_keep | assumption | (simp only [far1]; assumption))
      (first | ((try go_simp); go_at_call 102; refine (steps_ok W2.drew).mono ?_; rintro e w4 ⟨rm, b1, b3, rfl, hm4, hb1, hb3, hk4⟩; have p0 := hk4.cell' (Keeps.cell' (Keeps.refl Nothing W2).drew A0.out); have hl1 : (Instr.lookup 171 (.map (some rm)) (.int .i64 k) true).run Try.prog w4 = .ok (.tuple #[.agg #[.nilFunc, .nilFunc], .bool false]) w4 := run_lookup_no Try.underlying171 Try.underlying82 hm4 (HFN.out b1 b3) (HZ.out _); have hl2 : (Instr.lookup 171 (.map (some rm)) (.int .i64 k) true).run Try.prog (w4.alloc (.cells #[.nilFunc, .nilFunc] 169)) = .ok (.tuple #[.agg #[.nilFunc, .nilFunc], .bool false]) (w4.alloc (.cells #[.nilFunc, .nilFunc] 169)) := run_lookup_no Try.underlying171 Try.underlying82 ((Below.heap_alloc w4 (.cells #[.nilFunc, .nilFunc] 169) rm (Array.getElem?_eq_some_iff.1 hm4).1).trans hm4) (HFN.out b1 b3) (HZ.out _);  have HK4 := Lib.hid hk4; clear hb1 hb3 hk4 hm4) | ((try go_simp); go_at_call 102; refine (steps_ok (W2.alloc (.cells #[.nilFunc, .nilFunc] 169)).drew).mono ?_; rintro e w4 ⟨rm, b1, b3, rfl, hm4, hb1, hb3, hk4⟩; have p0 := hk4.cell' (Keeps.cell' ((Keeps.refl Nothing W2).alloc (.cells #[.nilFunc, .nilFunc] 169)).drew A0.out); have hl1 : (Instr.lookup 171 (.map (some rm)) (.int .i64 k) true).run Try.prog w4 = .ok (.tuple #[.agg #[.nilFunc, .nilFunc], .bool false]) w4 := run_lookup_no Try.underlying171 Try.underlying82 hm4 (HFN.out b1 b3) (HZ.out _); have hl2 : (Instr.lookup 171 (.map (some rm)) (.int .i64 k) true).run Try.prog (w4.alloc (.cells #[.nilFunc, .nilFunc] 169)) = .ok (.tuple #[.agg #[.nilFunc, .nilFunc], .bool false]) (w4.alloc (.cells #[.nilFunc, .nilFunc] 169)) := run_lookup_no Try.underlying171 Try.underlying82 ((Below.heap_alloc w4 (.cells #[.nilFunc, .nilFunc] 169) rm (Array.getElem?_eq_some_iff.1 hm4).1).trans hm4) (HFN.out b1 b3) (HZ.out _); have hb6 : Blk w4 W2.heap.size #[.nilFunc, .nilFunc] 169 := hk4.blk (Blk.new W2 _ _).drew id; have q0 := hb6.cell 0; have q1 := hb6.cell 1; simp at q0 q1; have q2 := hb6.frozen 0; have q3 := hb6.frozen 1; have q4 := hb6.lt; clear hb6; have HK4 := Lib.hid hk4; clear hb1 hb3 hk4 hm4))
    all_goals go_wp2_with fail
    all_goals first
      | (go_meet; exact ⟨_, rfl, rfl, (((Keeps.refl Nothing W2).drew).then HK4.out).alloc _⟩)
      | (go_meet; exact ⟨_, rfl, rfl, ((((Keeps.refl Nothing W2).alloc _).drew.then HK4.out).set _ _ (.inr (Nat.le_refl _))).set _ _ (.inr (Nat.le_refl _))⟩)
  case rest =>
    obtain ⟨b6, rfl, rfl, hkc⟩ := hcut
    have hkw : Keeps Nothing w wc := (HK1.out.then HK2.out).then hkc
    have HKW := Lib.hid hkw
    clear hkw hkc a0 HK1 HK2
    go_upto_region 3 with fail
    go_quiet (fail)
    go_wp2_with fail
    go_ret
    exact ⟨rfl, (HKW.out.then ((Keeps.refl Nothing wc).drewN nq)).blk HR.out id, (HKW.out.then ((Keeps.refl Nothing wc).drewN nq)).nothing⟩

end Go.Proofs.Ytejbeioiomjbpaa

/-
  Layer 12: an act, step 2.
-/
import Derived.Test.YtejbeioiomjbpaaFlag4
import Derived.Test.YtejbeioiomjbpaaMixD
namespace Go.Proofs.Ytejbeioiomjbpaa
open Go.RowKit
attribute [local go_sem] Oper.semAt_some undef run_store_func

set_option maxRecDepth 100000 in
set_option maxHeartbeats 4000000 in
theorem does2_ok (r : Nat) (s was : Int) (c o : Bool) (w : World) (hr : Blk w r #[.int .i64 s, .bool c] 142) :
    Calls Try.prog 78 #[.pointer (some ⟨r, 0, none⟩), .agg #[.int .i64 2, .bool o, .int .i64 was]] w fun e w' =>
      e = .returned (.bool (fits s c 2 o was)) ∧ (fits s c 2 o was = true → Blk w' r #[.int .i64 (thenF 2 was), .bool (thenF 2 was == 1)] 142) ∧ (fits s c 2 o was = false → Blk w' r #[.int .i64 s, .bool c] 142) ∧ Keeps (fun k => k = r) w w' := by
  obtain ⟨x, hx⟩ : ∃ x, w.heap.size = x := ⟨_, rfl⟩
  have hrx : r < x := by rw [← hx]; exact hr.lt
  have ha : Blk (w.alloc (.cells #[.int .i64 2, .bool o, .int .i64 was] 84)) x #[.int .i64 2, .bool o, .int .i64 was] 84 := by rw [← hx]; exact Blk.new _ _ _
  have hr1 := hr.alloc (.cells #[.int .i64 2, .bool o, .int .i64 was] 84)
  have hk1 : Keeps Nothing w (w.alloc (.cells #[.int .i64 2, .bool o, .int .i64 was] 84)) := (Keeps.refl _ _).alloc _
  have a0 := ha.cell 0
  have a1 := ha.cell 1
  have a2 := ha.cell 2
  have r0 := hr1.cell 0
  have r1 := hr1.cell 1
  simp at a0 a1 a2 r0 r1
  obtain ⟨W1, hW1⟩ : ∃ W1, w.alloc (.cells #[.int .i64 2, .bool o, .int .i64 was] 84) = W1 := ⟨_, rfl⟩
  rw [hW1] at ha hr1 hk1 a0 a1 a2 r0 r1
  have HA := Lib.hid ha
  have HR1 := Lib.hid hr1
  have HK1 := Lib.hid hk1
  have HR := Lib.hid hr
  have hlx : x < W1.heap.size := ha.lt
  clear ha hr1 hk1 hr
  go_enter Try.func78, Try.ntmps78
  go_upto_region 1 with fail
  clear hW1
  refine wp_mixp (by kernel_rfl) (by kernel_rfl) ?_
  go_wp2
  refine ⟨by kernel_rfl, ?_⟩
  have hk2 : Keeps Nothing W1 (W1.alloc (.cells #[.int .i64 2, .bool o, .int .i64 was, .bool c] 165)).drew := ((Keeps.refl _ _).alloc _).drew
  have h5 : Blk (W1.alloc (.cells #[.int .i64 2, .bool o, .int .i64 was, .bool c] 165)).drew W1.heap.size #[.int .i64 2, .bool o, .int .i64 was, .bool c] 165 := (Blk.new _ _ _).drew
  obtain ⟨b5, hb5⟩ : ∃ b5, W1.heap.size = b5 := ⟨_, rfl⟩
  rw [hb5] at h5 hlx ⊢
  have a0 := hk2.cell' a0
  obtain ⟨W2, hW2⟩ : ∃ W2, (W1.alloc (.cells #[.int .i64 2, .bool o, .int .i64 was, .bool c] 165)).drew = W2 := ⟨_, rfl⟩
  rw [hW2] at hk2 h5 a0 ⊢
  have HK2 := Lib.hid hk2
  have H5 := Lib.hid h5
  have hl5 : b5 < W2.heap.size := h5.lt
  clear hk2 h5 hW2 hb5 a1 a2 r0 r1
  go_upto_region 2 with fail
  go_cut [6, 7] from 14 to 20 (fun t6 t7 wx => ∃ b6 b1 b3, t6 = .pointer (some ⟨b6, 0, none⟩) ∧ t7 = .bool true ∧ Blk wx b6 #[.func (.func 109) #[] #[], .func (.func 112) #[] #[]] 169 ∧ Blk wx b1 #[.int .i64 1] 77 ∧ Blk wx b3 #[.int .i64 2] 77 ∧ Keeps Nothing W2 wx)
  case first =>
    have A0 := Lib.hid a0
    have far1 : ∀ (w : World) (v : Value) (o o' : Nat), (w.setCell ⟨W2.heap.size, o, none⟩ v).cell? ⟨x, o', none⟩ = w.cell? ⟨x, o', none⟩ := fun w v o o' => cell_set_far' _ _ _ _ (by dsimp only; omega)
    go_region_held_law (fun w' => w'.cell? ⟨x, 0, none⟩ = some (.int .i64 2))
      (first | go_keep | assumption | (simp only [far1]; assumption))
      (first | ((try go_simp); go_at_call 102; refine (steps_ok W2.drew).mono ?_; rintro e w4 ⟨rm, b1, b3, rfl, hm4, hb1, hb3, hk4⟩; have p0 := hk4.cell' (Keeps.cell' (Keeps.refl Nothing W2).drew A0.out); have hl1 : (Instr.lookup 171 (.map (some rm)) (.int .i64 2) true).run Try.prog w4 = .ok (.tuple #[.agg #[.func (.func 109) #[] #[], .func (.func 112) #[] #[]], .bool true]) w4 := run_lookup_is Try.underlying171 Try.underlying82 (i := 1) hm4 rfl; have hl2 : (Instr.lookup 171 (.map (some rm)) (.int .i64 2) true).run Try.prog (w4.alloc (.cells #[.nilFunc, .nilFunc] 169)) = .ok (.tuple #[.agg #[.func (.func 109) #[] #[], .func (.func 112) #[] #[]], .bool true]) (w4.alloc (.cells #[.nilFunc, .nilFunc] 169)) := run_lookup_is Try.underlying171 Try.underlying82 (i := 1) ((Below.heap_alloc w4 (.cells #[.nilFunc, .nilFunc] 169) rm (Array.getElem?_eq_some_iff.1 hm4).1).trans hm4) rfl;  have HB1 := Lib.hid hb1; have HB3 := Lib.hid hb3; have HK4 := Lib.hid hk4; clear hb1 hb3 hk4 hm4) | ((try go_simp); go_at_call 102; refine (steps_ok (W2.alloc (.cells #[.nilFunc, .nilFunc] 169)).drew).mono ?_; rintro e w4 ⟨rm, b1, b3, rfl, hm4, hb1, hb3, hk4⟩; have p0 := hk4.cell' (Keeps.cell' ((Keeps.refl Nothing W2).alloc (.cells #[.nilFunc, .nilFunc] 169)).drew A0.out); have hl1 : (Instr.lookup 171 (.map (some rm)) (.int .i64 2) true).run Try.prog w4 = .ok (.tuple #[.agg #[.func (.func 109) #[] #[], .func (.func 112) #[] #[]], .bool true]) w4 := run_lookup_is Try.underlying171 Try.underlying82 (i := 1) hm4 rfl; have hl2 : (Instr.lookup 171 (.map (some rm)) (.int .i64 2) true).run Try.prog (w4.alloc (.cells #[.nilFunc, .nilFunc] 169)) = .ok (.tuple #[.agg #[.func (.func 109) #[] #[], .func (.func 112) #[] #[]], .bool true]) (w4.alloc (.cells #[.nilFunc, .nilFunc] 169)) := run_lookup_is Try.underlying171 Try.underlying82 (i := 1) ((Below.heap_alloc w4 (.cells #[.nilFunc, .nilFunc] 169) rm (Array.getElem?_eq_some_iff.1 hm4).1).trans hm4) rfl; have hb6 : Blk w4 W2.heap.size #[.nilFunc, .nilFunc] 169 := hk4.blk (Blk.new W2 _ _).drew id; have q0 := hb6.cell 0; have q1 := hb6.cell 1; simp at q0 q1; have q2 := hb6.frozen 0; have q3 := hb6.frozen 1; have q4 := hb6.lt; have HB6 := Lib.hid hb6; clear hb6; have HB1 := Lib.hid hb1; have HB3 := Lib.hid hb3; have HK4 := Lib.hid hk4; clear hb1 hb3 hk4 hm4))
    all_goals go_wp2_with fail
    all_goals first
      | (go_meet; exact ⟨_, b1, b3, rfl, rfl, Blk.new _ _ _, HB1.out.alloc _, HB3.out.alloc _, (((Keeps.refl Nothing W2).drew).then HK4.out).alloc _⟩)
      | (have e1 : b1 ≠ W2.heap.size := (by intro e; have h := HB1.out; rw [e] at h; have h2 := h.symm.trans HB6.out; simp at h2); have e3 : b3 ≠ W2.heap.size := (by intro e; have h := HB3.out; rw [e] at h; have h2 := h.symm.trans HB6.out; simp at h2); go_meet; exact ⟨_, b1, b3, rfl, rfl, (HB6.out.set 0 _).set 1 _, (HB1.out.other e1 _).other e1 _, (HB3.out.other e3 _).other e3 _, ((((Keeps.refl Nothing W2).alloc _).drew.then HK4.out).set _ _ (.inr (Nat.le_refl _))).set _ _ (.inr (Nat.le_refl _))⟩)
  case rest =>
    obtain ⟨b6, b1, b3, rfl, rfl, h6, hb1, hb3, hkc⟩ := hcut
    have hkw : Keeps Nothing w wc := (HK1.out.then HK2.out).then hkc
    have hac := (HK2.out.then hkc).blk HA.out id
    have h5c := hkc.blk H5.out id
    have hrc := hkw.blk HR.out id
    have hsc : (wc.cell? ⟨x, 0, none⟩ = some (.int .i64 2) ∧ wc.cell? ⟨x, 1, none⟩ = some (.bool o) ∧ wc.cell? ⟨x, 2, none⟩ = some (.int .i64 was)) ∧ (wc.cell? ⟨r, 0, none⟩ = some (.int .i64 s) ∧ wc.cell? ⟨r, 1, none⟩ = some (.bool c)) ∧ (wc.cell? ⟨b5, 0, none⟩ = some (.int .i64 2) ∧ wc.cell? ⟨b5, 1, none⟩ = some (.bool o) ∧ wc.cell? ⟨b5, 2, none⟩ = some (.int .i64 was) ∧ wc.cell? ⟨b5, 3, none⟩ = some (.bool c)) ∧ wc.cell? ⟨b6, 0, none⟩ = some (.func (.func 109) #[] #[]) ∧ wc.cell? ⟨b6, 1, none⟩ = some (.func (.func 112) #[] #[]) := by
      have x0 := hac.cell 0
      have x1 := hac.cell 1
      have x2 := hac.cell 2
      have r0 := hrc.cell 0
      have r1 := hrc.cell 1
      have y0 := h5c.cell 0
      have y1 := h5c.cell 1
      have y2 := h5c.cell 2
      have y3 := h5c.cell 3
      have z0 := h6.cell 0
      have z1 := h6.cell 1
      simp at x0 x1 x2 r0 r1 y0 y1 y2 y3 z0 z1
      exact ⟨⟨x0, x1, x2⟩, ⟨r0, r1⟩, ⟨y0, y1, y2, y3⟩, z0, z1⟩
    have HKW := Lib.hid hkw
    have HRC := Lib.hid hrc
    have HB1 := Lib.hid hb1
    have HB3 := Lib.hid hb3
    clear hkw hac h5c hrc hb1 hb3 h6 hkc HA HR1 HK1 HR HK2 H5 a0
    by_cases hw : was = s
    · subst hw
      cases o
      ·
        have HSC := Lib.hid hsc
        obtain ⟨⟨x0, x1, x2⟩, ⟨r0, r1⟩, ⟨y0, y1, y2, y3⟩, z0, z1⟩ := hsc
        have hf : fits was c 2 false was = false := by simp [fits, mayF]
        have HF := Lib.hid hf
        clear hf
        go_upto_region 3 with fail
        refine wp_mixkD (by kernel_rfl) (by kernel_rfl) ?_
        intro K3 hK3
        have HK3 := Lib.hid hK3
        clear hK3
        try simp only [List.append_eq, List.cons_append, List.nil_append]
        go_wp2_with first
          | (go_at_call 109; refine (steps2_ok 2 was false c _).mono ?_; rintro e w5 ⟨rfl, hk5⟩; have hc5 : Keeps Nothing wc w5 := (Keeps.refl Nothing wc).drew.then hk5; have HC5 := Lib.hid hc5; clear hk5; obtain ⟨⟨m0, m1, m2⟩, ⟨m3, m4⟩, ⟨m5, m6, m7, m8⟩, m9, m10⟩ := keep11 hc5 HSC.out)
        refine HK3.out _ _ ⟨by kernel_rfl, ?_⟩
        go_wp2_with fail
        go_ret
        exact ⟨by rw [HF.out]; rfl, by rw [HF.out]; simp, fun _ => HC5.out.blk HRC.out id, (HKW.out.then HC5.out).nothing⟩
      · cases c
        ·
          have HSC := Lib.hid hsc
          obtain ⟨⟨x0, x1, x2⟩, ⟨r0, r1⟩, ⟨y0, y1, y2, y3⟩, z0, z1⟩ := hsc
          have hf : fits was false 2 true was = false := by simp [fits, mayF]
          have HF := Lib.hid hf
          clear hf
          go_upto_region 3 with fail
          refine wp_mixkD (by kernel_rfl) (by kernel_rfl) ?_
          intro K3 hK3
          have HK3 := Lib.hid hK3
          clear hK3
          try simp only [List.append_eq, List.cons_append, List.nil_append]
          go_wp2_with first
            | (go_at_call 109; refine (steps2_ok 2 was true false _).mono ?_; rintro e w5 ⟨rfl, hk5⟩; have hc5 : Keeps Nothing wc w5 := (Keeps.refl Nothing wc).drew.then hk5; have HC5 := Lib.hid hc5; clear hk5; obtain ⟨⟨m0, m1, m2⟩, ⟨m3, m4⟩, ⟨m5, m6, m7, m8⟩, m9, m10⟩ := keep11 hc5 HSC.out)
          refine HK3.out _ _ ⟨by kernel_rfl, ?_⟩
          go_wp2_with fail
          go_ret
          exact ⟨by rw [HF.out]; rfl, by rw [HF.out]; simp, fun _ => HC5.out.blk HRC.out id, (HKW.out.then HC5.out).nothing⟩
        ·
          have HSC := Lib.hid hsc
          obtain ⟨⟨x0, x1, x2⟩, ⟨r0, r1⟩, ⟨y0, y1, y2, y3⟩, z0, z1⟩ := hsc
          have hf : fits was true 2 true was = true := by simp [fits, mayF]
          have HF := Lib.hid hf
          clear hf
          go_upto_region 3 with fail
          refine wp_mixkD (by kernel_rfl) (by kernel_rfl) ?_
          intro K3 hK3
          have HK3 := Lib.hid hK3
          clear hK3
          try simp only [List.append_eq, List.cons_append, List.nil_append]
          go_wp2_with first
            | (go_at_call 109; refine (steps2_ok 2 was true true _).mono ?_; rintro e w5 ⟨rfl, hk5⟩; have hc5 : Keeps Nothing wc w5 := (Keeps.refl Nothing wc).drew.then hk5; have HC5 := Lib.hid hc5; clear hk5; obtain ⟨⟨m0, m1, m2⟩, ⟨m3, m4⟩, ⟨m5, m6, m7, m8⟩, m9, m10⟩ := keep11 hc5 HSC.out)
            | (go_at_call 103; refine (ends_ok 2 was true true _).mono ?_; rintro e w6 ⟨rfl, hk6⟩; have hc6 : Keeps Nothing wc w6 := HC5.out.then hk6; have HC6 := Lib.hid hc6; clear hk6; obtain ⟨⟨l0, l1, l2⟩, ⟨l3, l4⟩, ⟨l5, l6, l7, l8⟩, l9, l10⟩ := keep11 hc6 HSC.out)
          refine HK3.out _ _ ⟨by kernel_rfl, ?_⟩
          go_wp2_with (go_at_call 112; refine (steps4_ok 2 was true true _).mono ?_; rintro e w7 ⟨rfl, hk7⟩; have h7 := (HC6.out.then hk7).blk HRC.out id; have n0 := h7.cell 0; have n1 := h7.cell 1; have n2 := h7.frozen 0; have n3 := h7.frozen 1; have n4 := h7.lt; simp at n0 n1; have H7 := Lib.hid h7; have HK7 := Lib.hid hk7; clear h7 hk7)
          go_ret
          have ht : thenF 2 was = 0 := by simp [thenF]
          exact ⟨by rw [HF.out]; rfl, fun _ => by rw [ht]; exact (H7.out.set 0 _).set 1 _, by rw [HF.out]; simp, ((((HKW.out.then HC6.out).then HK7.out).nothing (S := fun k => k = r)).set _ _ (.inl rfl)).set _ _ (.inl rfl)⟩
    · have hfit : fits s c 2 o was = false := by simp [fits, hw]
      have HSC := Lib.hid hsc
      obtain ⟨⟨x0, x1, x2⟩, ⟨r0, r1⟩, ⟨y0, y1, y2, y3⟩, z0, z1⟩ := hsc
      go_upto_region 3 with fail
      have hw1 : (was == s) = false := by simp [hw]
      have hw2 : (was != s) = true := by simp [hw]
      go_quiet (fail)
      go_wp2_with fail
      go_ret
      exact ⟨by rw [hfit]; rfl, by simp [hfit], fun _ => ((Keeps.refl Nothing wc).drewN nq).blk HRC.out id, (HKW.out.then ((Keeps.refl Nothing wc).drewN nq)).nothing⟩

end Go.Proofs.Ytejbeioiomjbpaa

/-
  SpinHolds, walked.
-/
import Derived.Test.YtejbeioiomjbpaaSpinLaw
namespace Go.Proofs.Ytejbeioiomjbpaa
open Go.RowKit Go.Shelf

/-- A slice of bytes that came in. -/
structure RowU8 (w : World) (a : Option Addr) (n : Nat) (z : List Int) : Prop where
  len : z.length = n
  max : n ≤ maxLen
  at_ : ∀ i < n, ∃ x, a = some x ∧ w.cell? (x.add i) = some (.int .u8 (z[i]?.getD 0))
  bd : ∀ i < n, 0 ≤ z[i]?.getD 0 ∧ z[i]?.getD 0 < 256

theorem cell_lt {w : World} {p : Addr} {v : Value} (h : w.cell? p = some v) : p.block < w.heap.size := by
  obtain ⟨o, ho, _⟩ := not_walk_of_cell h
  exact (Array.getElem?_eq_some_iff.1 ho).1
theorem Keeps.cell {w W : World} (h : Keeps Nothing w W) {p : Addr} {v : Value} (hc : w.cell? p = some v) : W.cell? p = some v :=
  ((h.below (Nat.le_refl _) (fun _ hk => hk.elim)).cell (cell_lt hc)).trans hc
theorem RowU8.keep {w W : World} {a : Option Addr} {n : Nat} {z : List Int} (h : RowU8 w a n z) (hk : Keeps Nothing w W) : RowU8 W a n z :=
  ⟨h.len, h.max, fun i hi => by obtain ⟨x, hx, hc⟩ := h.at_ i hi; exact ⟨x, hx, hk.cell hc⟩, h.bd⟩

set_option maxRecDepth 100000 in
set_option maxHeartbeats 2000000 in
theorem SpinHolds_walk (L : Int) (a1 : Option Addr) (n1 c1 : Nat) (z1 : List Int) (a2 : Option Addr) (n2 c2 : Nat) (z2 : List Int) (w : World) (h1 : RowU8 w a1 n1 z1) (h2 : RowU8 w a2 n2 z2) :
    Calls Try.prog 3 #[.int .i64 L, .slice a1 n1 c1, .slice a2 n2 c2] w fun e w' => e = .returned (.bool true) ∧ Keeps Nothing w w' := by
  have hmx1 := h1.max
  have hmx2 := h2.max
  have H1 := Lib.hid h1
  have H2 := Lib.hid h2
  clear h1 h2
  unfold maxLen at hmx1 hmx2
  by_cases hlo : L < 1
  · go_enter Try.func3, Try.ntmps3
    go_wp2_with (go_at_call 13; refine (works03_ok _).mono ?_; rintro e w1 ⟨rfl, hk⟩)
    go_ret
    exact ⟨rfl, hk⟩
  by_cases hhi : 4 < L
  · go_enter Try.func3, Try.ntmps3
    go_wp2_with (go_at_call 13; refine (works03_ok _).mono ?_; rintro e w1 ⟨rfl, hk⟩)
    go_ret
    exact ⟨rfl, hk⟩
  by_cases hn : 100 < (n1 : Int)
  · go_enter Try.func3, Try.ntmps3
    go_wp2_with (go_at_call 13; refine (works03_ok _).mono ?_; rintro e w1 ⟨rfl, hk⟩)
    go_ret
    exact ⟨rfl, hk⟩
  obtain ⟨l, rfl⟩ : ∃ l : Nat, L = l := ⟨L.toNat, by omega⟩
  have e0 : newOf (l : Int) = (some ⟨zeros 0, l, [], 0⟩, 0) := by unfold newOf; rw [if_pos (by omega)]; rfl
  go_enter Try.func3, Try.ntmps3
  go_wp2_with (go_at_call 14; have C := New_any l w; rw [e0] at C; refine C.mono ?_; clear C; rintro e w1 ⟨v, S, rfl, hm, hS, hk, hv | ⟨-, q, rfl⟩⟩; exact absurd hv.1 (by simp); have hs := stay.start0 (M := AtMem (.pointer (some ⟨q, 0, none⟩))) hm hk hS; have hv : ∃ b, Value.pointer (some ⟨q, 0, none⟩) = .pointer b := ⟨_, rfl⟩; clear hm hk hS)
  clear e0
  go_loopw [9] (fun i wr => ∃ (k : Nat) (S : List Nat), i = .int .i64 k ∧ k ≤ l ∧ stay (AtMem (.pointer (some ⟨q, 0, none⟩))) w [] [] (some (⟨zeros k, l, [], 0⟩ : Ar)) S wr) (fun i _ => (l - intOf i).toNat)
  case atStart => exact ⟨0, S, rfl, by omega, hs⟩
  case round =>
    obtain ⟨k, S1, rfl, hkl, hs1⟩ := hrel
    by_cases hlt : k < l
    · have C := spinNew_any (.pointer (some ⟨q, 0, none⟩)) _ S1 wr hs1.mem
      rw [allot_more l k hlt] at C
      have C2 := stay_call hs1 C
      clear C hs1 hs
      go_wp2_with first
        | (go_at_call 15; refine C2.mono ?_; rintro e w2 ⟨rfl, S2, hs2⟩)
        | (go_at_call 16; refine (num03_ok _ _).mono ?_; rintro e w' ⟨rfl, rfl⟩)
      go_roundw
      case rel => exact ⟨k + 1, S2, by simp, by omega, hs2⟩
      case measure => simp [intOf]; omega
    · obtain rfl : k = l := by omega
      go_wp2_with fail
      obtain ⟨bh, hbh⟩ : ∃ bh, wr.heap.size = bh := ⟨_, rfl⟩
      have hs2 := hs1.box (atMem_framed _) (.cells #[.int .i64 (-1), .int .i64 (-1), .int .i64 (-1), .int .i64 (-1)] 31)
      rw [hbh] at hs2
      obtain ⟨wa, hwa⟩ : ∃ wa, wr.alloc (.cells #[.int .i64 (-1), .int .i64 (-1), .int .i64 (-1), .int .i64 (-1)] 31) = wa := ⟨_, rfl⟩
      rw [hwa] at hs2 ⊢
      rw [hbh]
      clear hwa hbh hs1 hs
      go_loopw [13] (fun i wr => ∃ (j : Nat) (A : Ar) (hl : List Int) (S : List Nat), i = .int .i64 j ∧ j ≤ n1 ∧ Fits A hl k ∧ A.many ≤ 2 * j ∧
        stay (AtMem (.pointer (some ⟨q, 0, none⟩))) w [] [(bh, .cells (hl.map (Value.int .i64)).toArray 31 (0, 0))] (some A) S wr) (fun i _ => (n1 - intOf i).toNat)
      case atStart => exact ⟨0, _, [-1, -1, -1, -1], S1, rfl, by omega, fits_start k (by omega), by simp, hs2⟩
      case round =>
        obtain ⟨j, A, hl, S2, rfl, hj, hfit, hmany, hs3⟩ := hrel
        by_cases hlt1 : j < n1
        · by_cases hlt2 : j < n2
          · obtain ⟨x1, rfl, hx1⟩ := (H1.out.keep hs3.nothing).at_ j hlt1
            obtain ⟨x2, rfl, hx2⟩ := (H2.out.keep hs3.nothing).at_ j hlt2
            have hb1 := H1.out.bd j hlt1
            have hb2 := H2.out.bd j hlt2
            obtain ⟨t, ht⟩ : ∃ t, z1[j]?.getD 0 = t := ⟨_, rfl⟩
            obtain ⟨u, hu⟩ : ∃ u, z2[j]?.getD 0 = u := ⟨_, rfl⟩
            rw [ht] at hx1 hb1
            rw [hu] at hx2 hb2
            clear ht hu
            go_wp2_with fail
            refine wp_mixp (by kernel_rfl) (by kernel_rfl) ?_
            go_wp2
            refine ⟨by kernel_rfl, ?_⟩
            have hp0 := Int.emod_nonneg u (show (k : Int) ≠ 0 by omega)
            have hp1 := Int.emod_lt_of_pos u (show (0 : Int) < k by omega)
            obtain ⟨p, hp⟩ : ∃ p : Nat, u % (k : Int) = p := ⟨(u % (k : Int)).toNat, by omega⟩
            rw [hp]
            rw [hp] at hp1
            clear hp hp0
            have hpk : p < k := by omega
            clear hp1
            have hkb : Blk wr bh (hl.map (Value.int .i64)).toArray 31 := hs3.blk (by simp)
            obtain ⟨h, hh⟩ : ∃ h, hl[p]?.getD 0 = h := ⟨_, rfl⟩
            have hpl : p < hl.length := by have := hfit.hlen; have := hfit.small; omega
            have hc : wr.cell? ⟨bh, p, none⟩ = some (.int .i64 h) := by
              rw [hkb.cell p]; simp [← hh, hpl]
            have hfz := hkb.frozen p
            have hp4 : (p : Int) < 4 := by have := hfit.small; omega
            by_cases heq : h = t
            · subst heq
              obtain ⟨B, e1, e2, hfit2, hmany2⟩ := fits_free hfit hpk (by rw [hh]; exact hb1.1)
              have C := Free_any (.pointer (some ⟨q, 0, none⟩)) (some A) S2 p wr.drew hs3.mem.drew (fun _ e => by cases e; omega)
              rw [e1, e2] at C
              have C2 := stay_call (hs3.keep (atMem_framed _) (Keeps.refl _ _).drew) C
              go_wp2_with first
                | (go_at_call 17; refine C2.mono ?_; rintro e w2 ⟨rfl, S4, hs4⟩; have kb4 : Blk w2 bh (hl.map (Value.int .i64)).toArray 31 := hs4.blk (by simp); have hc4 : w2.cell? ⟨bh, p, none⟩ = some (.int .i64 h) := (by rw [kb4.cell p]; simp [← hh, hpl]); have hf4 := kb4.frozen p; clear kb4)
                | (go_at_call 16; refine (num03_ok _ _).mono ?_; rintro e w' ⟨rfl, rfl⟩)
              go_roundw
              case rel =>
                have h5 := hs4.setRow (p := p) (v := .int .i64 (-1)) (atMem_framed _) (by simp [own])
                rw [← List.map_set] at h5
                exact ⟨j + 1, B, _, S4, by simp, by omega, hfit2, by omega, h5⟩
              case measure => simp [intOf]; omega
            · have heqb : (h == t) = false := by simpa using heq
              have C0 := Try_any (.pointer (some ⟨q, 0, none⟩)) (some A) S2 p wr.drew hs3.mem.drew (fun _ e => by cases e; omega) hv
              by_cases hneg : h < 0
              · obtain ⟨B, D, e1, e2, e3, hfit2, hmany2, hmany3⟩ := fits_try hfit hpk (by rw [hh]; exact hneg) t hb1.1
                rw [e1] at C0
                have C2 := stay_call (hs3.keep (atMem_framed _) (Keeps.refl _ _).drew) C0
                clear C0
                go_wp2_with first
                  | (go_at_call 18; refine C2.mono ?_; rintro e w2 ⟨rfl, S4, hs4⟩; have kb4 : Blk w2 bh (hl.map (Value.int .i64)).toArray 31 := hs4.blk (by simp); have hc4 : w2.cell? ⟨bh, p, none⟩ = some (.int .i64 h) := (by rw [kb4.cell p]; simp [← hh, hpl]); have hf4 := kb4.frozen p; clear kb4)
                  | (go_at_call 19; have h5 := hs4.setRow (p := p) (v := .int .i64 t) (atMem_framed _) (by simp [own]); rw [← List.map_set] at h5; have C := Held_any (.pointer (some ⟨q, 0, none⟩)) (some B) S4 p _ h5.mem (fun _ e => by cases e; omega) hv; rw [e3, e2] at C; refine (stay_call h5 C).mono ?_; rintro e w5 ⟨rfl, S5, hs5⟩; clear C h5)
                  | (go_at_call 16; refine (num03_ok _ _).mono ?_; rintro e w' ⟨rfl, rfl⟩)
                go_roundw
                case rel => exact ⟨j + 1, D, _, S5, by simp, by omega, hfit2, by omega, hs5⟩
                case measure => simp [intOf]; omega
              · obtain ⟨B, D, e1, e2, e3, hfit2, hmany2, hmany3⟩ := fits_miss hfit hpk (by rw [hh]; omega)
                rw [e1] at C0
                have C2 := stay_call (hs3.keep (atMem_framed _) (Keeps.refl _ _).drew) C0
                clear C0
                go_wp2_with first
                  | (go_at_call 18; refine C2.mono ?_; rintro e w2 ⟨rfl, S4, hs4⟩; have kb4 : Blk w2 bh (hl.map (Value.int .i64)).toArray 31 := hs4.blk (by simp); have hc4 : w2.cell? ⟨bh, p, none⟩ = some (.int .i64 h) := (by rw [kb4.cell p]; simp [← hh, hpl]); have hf4 := kb4.frozen p; clear kb4)
                  | (go_at_call 19; have h5 := hs4; have C := Held_any (.pointer (some ⟨q, 0, none⟩)) (some B) S4 p _ h5.mem (fun _ e => by cases e; omega) hv; rw [e3, e2] at C; refine (stay_call h5 C).mono ?_; rintro e w5 ⟨rfl, S5, hs5⟩; clear C h5)
                  | (go_at_call 16; refine (num03_ok _ _).mono ?_; rintro e w' ⟨rfl, rfl⟩)
                go_roundw
                case rel => exact ⟨j + 1, D, _, S5, by simp, by omega, hfit2, by omega, hs5⟩
                case measure => simp [intOf]; omega
          · clear hs2
            have HK := Lib.hid hs3.nothing
            clear hs3 hfit H1 H2
            go_wp2_with first
              | (go_at_call 13; refine (works03_ok _).mono ?_; rintro e w1 ⟨rfl, hk⟩)
              | (go_at_call 16; refine (num03_ok _ _).mono ?_; rintro e w' ⟨rfl, rfl⟩)
            go_ret
            exact ⟨rfl, HK.out.then hk⟩
        · clear hs2
          have HK := Lib.hid hs3.nothing
          clear hs3 hfit H1 H2
          go_wp2_with first
            | (go_at_call 13; refine (works03_ok _).mono ?_; rintro e w1 ⟨rfl, hk⟩)
            | (go_at_call 16; refine (num03_ok _ _).mono ?_; rintro e w' ⟨rfl, rfl⟩)
          go_ret
          exact ⟨rfl, HK.out.then hk⟩

end Go.Proofs.Ytejbeioiomjbpaa

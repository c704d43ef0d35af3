/-
  The document's arena (layer 1): Last. And the law's own little functions.
-/
import Derived.Test.YtejbeioiomjbpaaRef1
import Derived.Test.YtejbeioiomjbpaaOpens
import Derived.Test.YtejbeioiomjbpaaSpinHoldsW
import Derived.BigGuardPart
namespace Go.Proofs.Ytejbeioiomjbpaa
open Go.RowKit
attribute [local go_sem] Oper.semAt_some

set_option maxRecDepth 100000 in
theorem refLast_ok (v : Value) (C : List Int) (m : Int) (L : List Acc) (w : World) (h : RefAt w v C m L) (hL : L.length ≤ 1024) :
    Calls Try.prog 68 #[v] w fun e w' => ∃ lv, e = .returned (.tuple #[.int .i64 0, lv]) ∧ w.ownsRow 0 54 5 lv L.length (encs L) ∧ (∀ k, lv.ownBlock = some k → k ∈ refBlocks v) ∧ Keeps Nothing w w' := by
  obtain ⟨cv, lv, rfl, hc, hl⟩ := h
  obtain ⟨ca, cc, rfl, hcc, hcm⟩ := ownsRow_form hc
  have hcase : (lv = .slice none 0 0 ∧ L.length = 0) ∨ ∃ g lc, lv = .slice (some ⟨g, 0, none⟩) L.length lc ∧ L.length ≤ lc := by
    rcases hl.2 with ⟨h1, h2⟩ | ⟨g, cap, cur, h1, _, _, h2, _⟩
    · exact .inl ⟨h1, h2⟩
    · exact .inr ⟨g, cap, h1, h2⟩
  have HL := Lib.hid hl
  clear hl hc hcc hcm
  rcases hcase with ⟨rfl, h0⟩ | ⟨g, lc, rfl, hlc⟩
  · have hL0 : L = [] := List.eq_nil_of_length_eq_zero h0
    subst hL0
    go_enter Try.func68, Try.ntmps68
    go_wp2
    refine wp_mixp (by kernel_rfl) (by kernel_rfl) ?_
    go_wp2
    refine ⟨by kernel_rfl, ?_⟩
    go_wp2
    go_ret2
    exact ⟨_, rfl, HL.out, by simp [Value.ownBlock], ((Keeps.refl _ _).alloc _).drew⟩
  · have hm : ¬ (0 : Int) < (L.length : Int) - 1024 := by omega
    go_enter Try.func68, Try.ntmps68
    go_wp2
    refine wp_mixp (by kernel_rfl) (by kernel_rfl) ?_
    go_wp2
    refine ⟨by kernel_rfl, ?_⟩
    go_wp2
    go_ret2
    exact ⟨_, rfl, HL.out, by simp [Value.ownBlock, refBlocks], ((Keeps.refl _ _).alloc _).drew⟩

theorem addr_in (x : Addr) (n i : Nat) (hi : 0 < i) : x.add (n + i) = ⟨(x.add n).block, (x.add n).off + i, none⟩ := by
  have hb : (x.add n).block = x.block := by unfold Addr.add; split <;> rfl
  have ho : (x.add n).off = x.off + n := by unfold Addr.add; split <;> simp_all
  rw [hb, ho]
  unfold Addr.add
  rw [if_neg (by omega), Nat.add_assoc]

set_option maxRecDepth 100000 in
theorem few_ok (a : Option Addr) (n c : Nat) (V : Nat → Nat → Int) (many : Int) (w : World) (hrow : RowOf [.i64, .i64, .u64, .u64] w a n V) :
    Calls Try.prog 29 #[.slice a n c, .int .i64 many] w fun e w' => ∃ b, e = .returned (.bool b) ∧ (b = true → (n : Int) ≤ many ∧ ∀ i < n, V i 0 = 0 → V i 1 ≤ 200) ∧ w = w' := by
  have hmx := hrow.1
  unfold maxLen at hmx
  have HR := Lib.hid hrow.2
  clear hrow
  go_enter Try.func29, Try.ntmps29
  go_wp2
  go_loopw [5] (fun i wr => ∃ (j : Nat), i = .int .i64 j ∧ j ≤ n ∧ (∀ i < j, V i 0 = 0 → V i 1 ≤ 200) ∧ wr = w) (fun i _ => (n - intOf i).toNat)
  case atStart => exact ⟨0, rfl, by omega, fun i hi => by omega, rfl⟩
  case round =>
    obtain ⟨j, rfl, hj, hall, rfl⟩ := hrel
    by_cases hlt : j < n
    · obtain ⟨x, rfl, hcell⟩ := HR.out j hlt
      have d0 := (hcell 0 .i64 rfl).1
      have d1 := (hcell 1 .i64 rfl).1
      obtain ⟨x0, hx0⟩ : ∃ x0, V j 0 = x0 := ⟨_, rfl⟩
      obtain ⟨x1, hx1⟩ : ∃ x1, V j 1 = x1 := ⟨_, rfl⟩
      rw [hx0] at d0
      rw [hx1] at d1
      simp only [List.length_cons, List.length_nil, Nat.reduceAdd, Nat.add_zero] at d0 d1
      rw [addr_in _ _ _ (by omega)] at d1
      have HA := Lib.hid hall
      have HX0 := Lib.hid hx0
      have HX1 := Lib.hid hx1
      clear hcell hx0 hx1 hall
      by_cases hm : (j : Int) ≤ many
      · by_cases hbad : x0 = 0 ∧ 200 < x1
        · obtain ⟨h0, h1⟩ := hbad
          subst h0
          go_wp2
          go_ret
          exact ⟨false, rfl, by simp, rfl⟩
        · by_cases h0 : x0 = 0
          · have h1 : ¬ 200 < x1 := fun h => hbad ⟨h0, h⟩
            subst h0
            clear hbad
            go_wp2
            go_roundw
            case rel =>
              refine ⟨j + 1, by simp, by omega, fun i hi h => ?_, by simp⟩
              by_cases he : i = j
              · subst he; rw [HX1.out]; omega
              · exact HA.out i (by omega) h
            case measure => simp [intOf]; omega
          · clear hbad
            go_wp2
            go_roundw
            case rel =>
              refine ⟨j + 1, by simp, by omega, fun i hi h => ?_, by simp⟩
              by_cases he : i = j
              · subst he; rw [HX0.out] at h; exact absurd h h0
              · exact HA.out i (by omega) h
            case measure => simp [intOf]; omega
      · have hnm : ¬ (n : Int) ≤ many := by omega
        go_wp2
        go_ret
        exact .inl ⟨rfl, rfl⟩
    · obtain rfl : j = n := by omega
      have HA := Lib.hid hall
      clear hall
      by_cases hm : (j : Int) ≤ many
      · go_wp2
        go_ret
        first
          | exact .inr ⟨rfl, ⟨hm, HA.out⟩, rfl⟩
          | exact ⟨true, rfl, fun _ => ⟨hm, HA.out⟩, rfl⟩
      · go_wp2
        go_ret
        first
          | exact .inl ⟨rfl, rfl⟩
          | exact ⟨false, rfl, by simp, rfl⟩

end Go.Proofs.Ytejbeioiomjbpaa

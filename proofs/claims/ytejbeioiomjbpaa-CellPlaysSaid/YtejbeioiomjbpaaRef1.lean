/-
  The document's arena (layer 1): New, Alloc.
-/
import Derived.Test.YtejbeioiomjbpaaCellAny
import Derived.Test.YtejbeioiomjbpaaAppendZ
import Derived.Test.YtejbeioiomjbpaaMixR
import Derived.Deep.RegionHeldLaw
import Derived.BigGuard
import Derived.Deep.DeepCutAuto
import Derived.Deep.CutBlock
namespace Go.Proofs.Ytejbeioiomjbpaa
open Go.RowKit
attribute [local go_sem] Oper.semAt_some

/-- The document's arena, as a value: its words, how many there may be, all accesses. -/
def RefAt (w : World) (v : Value) (C : List Int) (m : Int) (L : List Acc) : Prop :=
  ∃ cv lv, v = .agg #[cv, .int .i64 m, lv] ∧ w.ownsRow 0 39 1 cv C.length (C.map (Value.int .u64)) ∧ w.ownsRow 0 54 5 lv L.length (encs L)
/-- The blocks of such a value. -/
def refBlocks (v : Value) : List Nat :=
  match v with
  | .agg cs => ((cs[0]?.bind Value.ownBlock).toList) ++ ((cs[2]?.bind Value.ownBlock).toList)
  | _ => []

theorem RefAt.frame {w w' : World} {v : Value} {C : List Int} {m : Int} {L : List Acc} (h : RefAt w v C m L) (hk : ∀ k ∈ refBlocks v, w'.heap[k]? = w.heap[k]?) : RefAt w' v C m L := by
  obtain ⟨cv, lv, rfl, h1, h2⟩ := h
  exact ⟨cv, lv, rfl, ownsRow_kept h1 fun k e => hk k (by simp [refBlocks, e]), ownsRow_kept h2 fun k e => hk k (by simp [refBlocks, e])⟩
theorem RefAt.lt {w : World} {v : Value} {C : List Int} {m : Int} {L : List Acc} (h : RefAt w v C m L) : ∀ k ∈ refBlocks v, k < w.heap.size := by
  obtain ⟨cv, lv, rfl, h1, h2⟩ := h
  intro k hk
  simp [refBlocks] at hk
  rcases hk with hk | hk
  · obtain ⟨cs, hcs⟩ := ownsRow_blk h1 hk; exact hcs.lt
  · obtain ⟨cs, hcs⟩ := ownsRow_blk h2 hk; exact hcs.lt
theorem RefAt.keep {w w' : World} {v : Value} {C : List Int} {m : Int} {L : List Acc} (h : RefAt w v C m L) (hk : Keeps Nothing w w') : RefAt w' v C m L :=
  h.frame fun k hk' => hk.block k (h.lt k hk') id

theorem refNew_ok (m : Int) (w : World) :
    Calls Try.prog 31 #[.int .i64 m] w fun e w' => ∃ u, e = .returned (.tuple #[u, .int .i64 (newOf m).2]) ∧ RefAt w' u [] (if 1 ≤ m ∧ m ≤ 65536 then m else 0) [] ∧ Keeps Nothing w w' ∧ refBlocks u = [] := by
  have key : ∀ (k : Int) (w' : World), RefAt w' (.agg #[.slice none 0 0, .int .i64 k, .slice none 0 0]) [] k [] := fun k w' => ⟨_, _, rfl, World.ownsRow_nil _ _ _ _, World.ownsRow_nil _ _ _ _⟩
  unfold newOf
  by_cases h1 : m < 1
  · rw [if_neg (by omega), if_neg (by omega)]
    go_enter Try.func31, Try.ntmps31
    go_wp2
    exact bodyPost_ret (v := .tuple #[.agg #[.slice none 0 0, .int .i64 0, .slice none 0 0], .int .i64 2]) (by simp [results, Try.results31, go_sem]) rfl ⟨_, rfl, key _ _, (Keeps.refl _ _).alloc _, by simp [refBlocks, Value.ownBlock]⟩
  · by_cases h2 : 65536 < m
    · rw [if_neg (by omega), if_neg (by omega)]
      go_enter Try.func31, Try.ntmps31
      go_wp2
      exact bodyPost_ret (v := .tuple #[.agg #[.slice none 0 0, .int .i64 0, .slice none 0 0], .int .i64 2]) (by simp [results, Try.results31, go_sem]) rfl ⟨_, rfl, key _ _, (Keeps.refl _ _).alloc _, by simp [refBlocks, Value.ownBlock]⟩
    · rw [if_pos (by omega), if_pos (by omega)]
      go_enter Try.func31, Try.ntmps31
      go_wp2
      exact bodyPost_ret (v := .tuple #[.agg #[.slice none 0 0, .int .i64 m, .slice none 0 0], .int .i64 0]) (by simp [results, Try.results31, go_sem]) rfl ⟨_, rfl, key _ _, (Keeps.refl _ _).alloc _, by simp [refBlocks, Value.ownBlock]⟩

def cellsOf (X : Option Ar) : List Int := match X with | none => [] | some A => A.cells

set_option maxRecDepth 100000 in
theorem refAlloc_ok (v : Value) (A : Ar) (L : List Acc) (n : Int) (w : World) (h : RefAt w v A.cells A.most L) (hb : A.cells.length ≤ 65536) (hmost : 0 ≤ A.most ∧ A.most ≤ 65536) :
    Calls Try.prog 66 #[v, .int .i64 n] w fun e w' => ∃ u, e = .returned (.tuple #[u, .int .i64 (allot (some A) n).2.1, .int .i64 (allot (some A) n).2.2]) ∧
      RefAt w' u (cellsOf (allot (some A) n).1) A.most L ∧ Keeps Nothing w w' ∧ (∀ k ∈ refBlocks u, k ∈ refBlocks v ∨ w.heap.size ≤ k) := by
  obtain ⟨cells, most, ring, many⟩ := A
  obtain ⟨cv, lv, rfl, hc, hl⟩ := h
  dsimp only at hc hl hb hmost ⊢
  obtain ⟨ca, cc, rfl, hcc, hcm⟩ := ownsRow_form hc
  obtain ⟨la, lc, rfl, hlc, hlm⟩ := ownsRow_form hl
  have HC := Lib.hid hc
  have HL := Lib.hid hl
  clear hc hl
  obtain ⟨i0, hi, hz0, hz1, hz2⟩ := info_parts infoU64
  have hfin : ∀ (W' : World), Keeps Nothing w W' → RefAt W' (.agg #[.slice ca cells.length cc, .int .i64 most, .slice la L.length lc]) cells most L := fun W' hk =>
    RefAt.keep ⟨_, _, rfl, HC.out, HL.out⟩ hk
  have HF := Lib.hid hfin
  clear hfin hcc hcm hlc hlm
  simp only [allot]
  by_cases h1 : n < 0
  · rw [if_pos h1]
    go_enter Try.func66, Try.ntmps66
    go_wp2
    exact bodyPost_ret (v := .tuple #[.agg #[.slice ca cells.length cc, .int .i64 most, .slice la L.length lc], .int .i64 0, .int .i64 2]) (by simp [results, Try.results66, go_sem]) rfl ⟨_, rfl, HF.out _ (((Keeps.refl _ _).alloc _).alloc _), ((Keeps.refl _ _).alloc _).alloc _, fun k hk => .inl hk⟩
  rw [if_neg h1]
  by_cases h2 : most - cells.length < n
  · rw [if_pos h2]
    go_enter Try.func66, Try.ntmps66
    go_wp2
    exact bodyPost_ret (v := .tuple #[.agg #[.slice ca cells.length cc, .int .i64 most, .slice la L.length lc], .int .i64 0, .int .i64 6]) (by simp [results, Try.results66, go_sem]) rfl ⟨_, rfl, HF.out _ (((Keeps.refl _ _).alloc _).alloc _), ((Keeps.refl _ _).alloc _).alloc _, fun k hk => .inl hk⟩
  rw [if_neg h2]
  obtain ⟨j, rfl⟩ : ∃ j : Nat, n = j := ⟨n.toNat, by omega⟩
  go_enter Try.func66, Try.ntmps66
  go_upto_region 6 with fail
  obtain ⟨b0, hb0⟩ : ∃ b0, w.heap.size = b0 := ⟨_, rfl⟩
  have hk2 : Keeps Nothing w ((w.alloc (.cells #[.slice ca cells.length cc, .int .i64 most, .slice la L.length lc] 59)).alloc (.cells #[.slice none 0 0, .int .i64 0, .slice none 0 0] 59)) := ((Keeps.refl _ _).alloc _).alloc _
  have kb : Blk ((w.alloc (.cells #[.slice ca cells.length cc, .int .i64 most, .slice la L.length lc] 59)).alloc (.cells #[.slice none 0 0, .int .i64 0, .slice none 0 0] 59)) b0 #[.slice ca cells.length cc, .int .i64 most, .slice la L.length lc] 59 := by rw [← hb0]; exact (Blk.new w _ _).alloc _
  have kr : Blk ((w.alloc (.cells #[.slice ca cells.length cc, .int .i64 most, .slice la L.length lc] 59)).alloc (.cells #[.slice none 0 0, .int .i64 0, .slice none 0 0] 59)) (b0 + 1) #[.slice none 0 0, .int .i64 0, .slice none 0 0] 59 := by rw [← hb0]; exact Blk.new' _ _ (by simp)
  have hsz : ((w.alloc (.cells #[.slice ca cells.length cc, .int .i64 most, .slice la L.length lc] 59)).alloc (.cells #[.slice none 0 0, .int .i64 0, .slice none 0 0] 59)).heap.size = b0 + 2 := by rw [← hb0]; simp
  have hc2 := (HC.out.alloc (.cells #[.slice ca cells.length cc, .int .i64 most, .slice la L.length lc] 59)).alloc (.cells #[.slice none 0 0, .int .i64 0, .slice none 0 0] 59)
  rw [hb0]
  obtain ⟨W2, hW2⟩ : ∃ W2, ((w.alloc (.cells #[.slice ca cells.length cc, .int .i64 most, .slice la L.length lc] 59)).alloc (.cells #[.slice none 0 0, .int .i64 0, .slice none 0 0] 59)) = W2 := ⟨_, rfl⟩
  rw [hW2] at hk2 kb kr hsz hc2 ⊢
  have x0 := kb.cell 0
  simp at x0
  have HK2 := Lib.hid hk2
  have HC2 := Lib.hid hc2
  have HKB := Lib.hid kb
  have HKR := Lib.hid kr
  have hem := ownsRow_empty W2 39 1
  rw [hsz] at hem
  have HEM := Lib.hid hem
  clear hk2 hc2 kb kr hW2 hem
  go_wp2_with (at_builtin; refine wpList_append_row _ rfl (.tmp 23) (.tmp 25) 38 rfl 0 0 39 i0 (.int .u64 0) 1 8 Try.underlying38 hi hz0 hz1 hz2 rfl (by decide) _ _ _ rfl HEM.out _ _ _ rfl (HC2.out.alloc _) (rowU_one _ _) (by unfold maxLen; omega) (by omega) (Nat.zero_le _) ?_)
  intro v1 W3 hown1 hgrow1 hat1
  try simp only [Nat.zero_add, List.nil_append] at hown1
  have hk3 : Keeps (fun k => b0 + 2 ≤ k) W2 W3 := ((Keeps.refl _ _).alloc _).grown hgrow1 (fun k hk => by simp [Value.ownBlock] at hk; subst hk; exact .inl (Nat.le_refl _))
  have hv1 : ∀ k, v1.ownBlock = some k → b0 + 2 ≤ k := by
    intro k hk
    rcases hat1 with h | h <;> rw [h] at hk <;> simp [Value.ownBlock] at hk <;> omega
  obtain ⟨a1, c1, rfl, _, _⟩ := ownsRow_form hown1
  have HO1 := Lib.hid hown1
  have HV1 := Lib.hid hv1
  have HK3 := Lib.hid hk3
  clear hown1 hgrow1 hat1 hk3 hv1 x0
  go_wp2_with (at_builtin; refine wpList_append_zeros _ rfl (.tmp 26) (.tmp 27) 38 3 rfl 0 39 i0 (.int .u64 0) (.int .u64 0) .i64 Try.underlying38 Try.underlying3 hi hz0 hz1 hz2 rfl rfl _ _ _ rfl HO1.out j rfl (by omega) (Nat.zero_le _) ?_)
  intro v2 W4 hown2 hgrow2 hat2
  have hk4 : Keeps (fun k => b0 + 2 ≤ k) W2 W4 := HK3.out.grown hgrow2 (fun k hk => .inl (HV1.out k hk))
  have hv2 : ∀ k, v2.ownBlock = some k → b0 + 2 ≤ k := by
    intro k hk
    rcases hat2 with h | h
    · exact HV1.out k (h ▸ hk)
    · rw [h] at hk
      have := HK3.out.size
      simp at hk
      omega
  have kb4 := hk4.blk HKB.out (by omega)
  have kr4 := hk4.blk HKR.out (by omega)
  have z0 := kb4.cell 0
  have z1 := kb4.cell 1
  have z2 := kb4.cell 2
  have y0 := kr4.cell 0
  have y1 := kr4.cell 1
  have y2 := kr4.cell 2
  have f0 := kb4.frozen 0
  have g0 := kr4.frozen 0
  have g1 := kr4.frozen 1
  have g2 := kr4.frozen 2
  simp at z0 z1 z2 y0 y1 y2
  obtain ⟨a2, c2, rfl, _, _⟩ := ownsRow_form hown2
  have HO2 := Lib.hid hown2
  have HV2 := Lib.hid hv2
  have HK4 := Lib.hid hk4
  have lb := kb4.lt
  have lr := kr4.lt
  have KR4 := Lib.hid kr4
  clear hown2 hgrow2 hat2 hk4 hv2 kb4 kr4
  go_wp2
  have hk5 : Keeps Nothing w W4 := ⟨HK4.out.os.trans HK2.out.os, HK4.out.tape.trans HK2.out.tape, HK4.out.output.trans HK2.out.output, Nat.le_trans HK2.out.size HK4.out.size, fun k hk _ =>
    (HK4.out.block k (Nat.lt_of_lt_of_le hk HK2.out.size) (by omega)).trans (HK2.out.block k hk id)⟩
  have kres := (((KR4.out.other (a := ⟨b0, 0, none⟩) (by simp) (.slice a2 (cells.length + j) c2)).set 0 (.slice a2 (cells.length + j) c2)).set 1 (.int .i64 most)).set 2 (.slice la L.length lc)
  have r0 := kres.cell 0
  have r1 := kres.cell 1
  have r2 := kres.cell 2
  simp at r0 r1 r2
  have hkf := (((hk5.set ⟨b0, 0, none⟩ (.slice a2 (cells.length + j) c2) (.inr (by rw [hb0]; exact Nat.le_refl _))).set ⟨b0 + 1, 0, none⟩ (.slice a2 (cells.length + j) c2) (.inr (by rw [hb0]; exact Nat.le_succ _))).set ⟨b0 + 1, 1, none⟩ (.int .i64 most) (.inr (by rw [hb0]; exact Nat.le_succ _))).set ⟨b0 + 1, 2, none⟩ (.slice la L.length lc) (.inr (by rw [hb0]; exact Nat.le_succ _))
  have hrow : W4.ownsRow 0 39 1 (.slice a2 (cells.length + j) c2) (cells ++ zeros j).length ((cells ++ zeros j).map (Value.int .u64)) := by
    have := HO2.out
    simpa [zeros, List.map_append] using this
  refine bodyPost_ret (v := .tuple #[.agg #[.slice a2 (cells.length + j) c2, .int .i64 most, .slice la L.length lc], .int .i64 cells.length, .int .i64 0]) (by simp [results, Try.results66, go_sem, r0, r1, r2]) rfl ⟨_, rfl, ⟨_, _, rfl, ?_, ?_⟩, hkf, ?_⟩
  · refine ownsRow_kept hrow fun k hk => ?_
    have := HV2.out k hk
    rw [heap_setCell_other _ _ k _ (by simp; omega), heap_setCell_other _ _ k _ (by simp; omega), heap_setCell_other _ _ k _ (by simp; omega), heap_setCell_other _ _ k _ (by simp; omega)]
  · refine ownsRow_kept HL.out fun k hk => hkf.block k ?_ id
    obtain ⟨cs, hcs⟩ := ownsRow_blk HL.out hk
    exact hcs.lt
  · intro k hk
    simp [refBlocks] at hk
    rcases hk with h | h
    · exact .inr (by have := HV2.out k h; omega)
    · exact .inl (by simp [refBlocks, h])

end Go.Proofs.Ytejbeioiomjbpaa

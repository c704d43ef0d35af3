/-
  The law of layer 1: act, by both.
-/
import Derived.Test.YtejbeioiomjbpaaRef2
import Derived.Test.YtejbeioiomjbpaaRef3
import Derived.Test.YtejbeioiomjbpaaCellWorks
import Derived.Deep.RegionHeld3
namespace Go.Proofs.Ytejbeioiomjbpaa
open Go.RowKit Go.Shelf
attribute [local go_sem] Oper.semAt_some

/-- The arena v and the document's u: the same words, bound; L are all accesses. -/
structure Pair (w : World) (v u : Value) (A : Ar) (L : List Acc) (S : List Nat) : Prop where
  mem : Mem w v (some A) S
  ref : RefAt w u A.cells A.most L
  apart : ∀ k ∈ refBlocks u, k ∉ S

/-- What a call does: the arena then, and the accesses more. -/
def actOf (A : Ar) (what k x y : Int) : Ar × List Acc :=
  if what = 0 then (((allot (some A) k).1).getD A, [])
  else if what = 1 then (((acc (some A) 1 k fLoad).1).getD A, noteOf A 1 k fLoad)
  else if what = 2 then (((acc (some A) 2 k (fStore x)).1).getD A, noteOf A 2 k (fStore x))
  else if what = 3 ∨ what = 4 then (((acc (some A) 3 k (fSwap x y)).1).getD A, noteOf A 3 k (fSwap x y))
  else if what = 5 then (((acc (some A) 4 k (fAdd x)).1).getD A, noteOf A 4 k (fAdd x))
  else (A, [])

theorem allot_some (A : Ar) (k : Int) : ∃ A', (allot (some A) k).1 = some A' ∧ A'.most = A.most := by
  simp only [allot]
  split
  · exact ⟨A, rfl, rfl⟩
  · split
    · exact ⟨A, rfl, rfl⟩
    · exact ⟨_, rfl, rfl⟩

set_option maxRecDepth 100000 in
set_option maxHeartbeats 1000000 in
theorem act01_alloc (v u : Value) (A : Ar) (L : List Acc) (S : List Nat) (k x y : Int) (w : World) (h : Pair w v u A L S) (hb : A.cells.length ≤ 65536) (hm : 0 ≤ A.most ∧ A.most ≤ 65536) (hv : ∃ a, v = .pointer a) :
    Calls Try.prog 30 #[v, u, .agg #[.int .i64 0, .int .i64 k, .int .u64 x, .int .u64 y]] w fun e w' => ∃ u' A' S', e = .returned (.tuple #[v, u', .bool true]) ∧ (allot (some A) k).1 = some A' ∧ Pair w' v u' A' L S' ∧
      Turn S S' w w' ∧ (∀ k ∈ refBlocks u', k ∈ refBlocks u ∨ w.heap.size ≤ k) := by
  obtain ⟨a, rfl⟩ := hv
  obtain ⟨hmem, href, hap⟩ := h
  obtain ⟨c0, c1, rfl, hc0, hc1⟩ := href
  have href : RefAt w (.agg #[c0, .int .i64 A.most, c1]) A.cells A.most L := ⟨c0, c1, rfl, hc0, hc1⟩
  clear hc0 hc1
  obtain ⟨b0, hb0⟩ : ∃ b0, w.heap.size = b0 := ⟨_, rfl⟩
  have hs : stay (AtMem (.pointer a)) w S [] (some A) S w := stay.start hmem
  have hs1 := ((hs.box (atMem_framed _) (.cells #[c0, .int .i64 A.most, c1] 59)).box (atMem_framed _) (.cells #[.int .i64 0, .int .i64 k, .int .u64 x, .int .u64 y] 41)).box (atMem_framed _) (.cells #[.slice none 0 0, .int .i64 0, .slice none 0 0] 59)
  have hr1 : RefAt (((w.alloc (.cells #[c0, .int .i64 A.most, c1] 59)).alloc (.cells #[.int .i64 0, .int .i64 k, .int .u64 x, .int .u64 y] 41)).alloc (.cells #[.slice none 0 0, .int .i64 0, .slice none 0 0] 59)) (.agg #[c0, .int .i64 A.most, c1]) A.cells A.most L := href.keep ((((Keeps.refl _ _).alloc _).alloc _).alloc _)
  simp only [World.size_alloc, hb0] at hs1
  obtain ⟨W0, hW0⟩ : ∃ W0, (((w.alloc (.cells #[c0, .int .i64 A.most, c1] 59)).alloc (.cells #[.int .i64 0, .int .i64 k, .int .u64 x, .int .u64 y] 41)).alloc (.cells #[.slice none 0 0, .int .i64 0, .slice none 0 0] 59)) = W0 := ⟨_, rfl⟩
  rw [hW0] at hs1 hr1
  have hsz : b0 + 3 = W0.heap.size := by rw [← hW0, ← hb0]; simp
  have y0 := (hs1.blk (b := b0 + 1) (cs := #[.int .i64 0, .int .i64 k, .int .u64 x, .int .u64 y]) (e := 41) (by simp)).cell 0
  have y1 := (hs1.blk (b := b0 + 1) (cs := #[.int .i64 0, .int .i64 k, .int .u64 x, .int .u64 y]) (e := 41) (by simp)).cell 1
  have x0 := (hs1.blk (b := b0) (cs := #[c0, .int .i64 A.most, c1]) (e := 59) (by simp)).cell 0
  have x1 := (hs1.blk (b := b0) (cs := #[c0, .int .i64 A.most, c1]) (e := 59) (by simp)).cell 1
  have x2 := (hs1.blk (b := b0) (cs := #[c0, .int .i64 A.most, c1]) (e := 59) (by simp)).cell 2
  simp at y0 y1 x0 x1 x2
  have HS := Lib.hid hs1
  have HR := Lib.hid hr1
  have HAP := Lib.hid hap
  have HREF := Lib.hid href
  clear hs hs1 hr1 hap href hmem
  go_enter Try.func30, Try.ntmps30
  go_wp2_with first
    | (go_at_call 66; refine (refAlloc_ok _ A L k _ HR.out hb hm).mono ?_; rintro e w1 ⟨u', rfl, hr2, hk2, hbl2⟩; have hs2 := HS.out.keep (atMem_framed _) hk2; obtain ⟨d0, d1, rfl, g1, g2⟩ := hr2; obtain ⟨e0, f0, rfl, _, _⟩ := ownsRow_form g1; obtain ⟨e1, f1, rfl, _, _⟩ := ownsRow_form g2; have hr3 : RefAt w1 (.agg #[.slice e0 (cellsOf (allot (some A) k).1).length f0, .int .i64 A.most, .slice e1 L.length f1]) (cellsOf (allot (some A) k).1) A.most L := ⟨_, _, rfl, g1, g2⟩; have HR2 := Lib.hid hr3; clear hr3 g1 g2; have HS2 := Lib.hid hs2; have HBL := Lib.hid hbl2; have hs3 := hs2.box (atMem_framed _) (.cells #[.slice e0 (cellsOf (allot (some A) k).1).length f0, .int .i64 A.most, .slice e1 L.length f1] 59); have z1 := (hs3.blk (b := b0 + 1) (cs := #[.int .i64 0, .int .i64 k, .int .u64 x, .int .u64 y]) (e := 41) (by simp)).cell 1; simp at z1; have HS3 := Lib.hid hs3; clear hs2 hs3 hbl2 hk2)
    | (go_at_call 21; have C := Alloc_any (.pointer a) (some A) _ k _ HS3.out.mem; refine C.mono ?_; rintro e w3 ⟨rfl, S3, hm3, ht3⟩; have HM3 := Lib.hid hm3; have HT3 := Lib.hid ht3; clear C hm3 ht3)
  have k9 := HT3.out.1.blk (HS3.out.blk (b := w1.heap.size) (cs := #[.slice e0 (cellsOf (allot (some A) k).1).length f0, .int .i64 A.most, .slice e1 L.length f1]) (e := 59) (by simp)) (HS3.out.2.2 _ (by simp [own])).1
  have kr := HT3.out.1.blk (HS3.out.blk (b := b0 + 1 + 1) (cs := #[.slice none 0 0, .int .i64 0, .slice none 0 0]) (e := 59) (by simp)) (HS3.out.2.2 _ (by simp [own])).1
  have hlt1 : b0 + 3 ≤ w1.heap.size := by
    have := HS2.out.lie.lt (b := b0 + 1 + 1) (by simp [own])
    omega
  obtain ⟨b9, hb9⟩ : ∃ b9, w1.heap.size = b9 := ⟨_, rfl⟩
  rw [hb9] at k9 hlt1 ⊢
  have m0 := k9.cell 0
  have m1 := k9.cell 1
  have m2 := k9.cell 2
  have n0 := kr.cell 0
  have n1 := kr.cell 1
  have n2 := kr.cell 2
  have g0 := kr.frozen 0
  have g1 := kr.frozen 1
  have g2 := kr.frozen 2
  simp at m0 m1 m2 n0 n1 n2
  have lr := kr.lt
  have K9 := Lib.hid k9
  have KR := Lib.hid kr
  have far1 : ∀ (w : World) (v : Value) (o o' : Nat), (w.setCell ⟨b0 + 1 + 1, o, none⟩ v).cell? ⟨b9, o', none⟩ = w.cell? ⟨b9, o', none⟩ := fun w v o o' => cell_set_far _ _ _ _ (by dsimp only; omega)
  have ne1 : ¬ b9 = b0 + 1 + 1 := by omega
  have HB0 := Lib.hid hb0
  have HB9 := Lib.hid hb9
  clear k9 kr y0 y1 x0 x1 x2 z1 hW0 hb0 hb9
  go_region_held_law (fun w' => w'.cell? ⟨b9, 0, none⟩ = some (.slice e0 (cellsOf (allot (some A) k).1).length f0) ∧ w'.cell? ⟨b9, 1, none⟩ = some (.int .i64 A.most) ∧ w'.cell? ⟨b9, 2, none⟩ = some (.slice e1 L.length f1))
    (first | go_keep | (simp only [far1]; exact ⟨by assumption, by assumption, by assumption⟩))
    (first | (go_simp; go_at_call 28; refine (num01_ok _ _).mono ?_; rintro e w' ⟨rfl, rfl⟩) | (go_at_call 28; refine (num01_ok _ _).mono ?_; rintro e w' ⟨rfl, rfl⟩))
  go_wp2_with fail
  obtain ⟨A', hA', hmo'⟩ := allot_some A k
  have kres := ((KR.out.set 0 (.slice e0 (cellsOf (allot (some A) k).1).length f0)).set 1 (.int .i64 A.most)).set 2 (.slice e1 L.length f1)
  have r0 := kres.cell 0
  have r1 := kres.cell 1
  have r2 := kres.cell 2
  simp at r0 r1 r2
  have hnS : b0 + 1 + 1 ∉ S := (HS3.out.2.2 _ (by simp [own])).1
  have hnS3 : b0 + 1 + 1 ∉ S3 := fun h => by
    rcases HT3.out.2 _ h with h | h
    · exact hnS h
    · simp at h; have := HS2.out.lie.lt (b := b0 + 1 + 1) (by simp [own]); omega
  have hset : ∀ kk, kk ≠ b0 + 1 + 1 → ((((w3.setCell ⟨b0 + 1 + 1, 0, none⟩ (.slice e0 (cellsOf (allot (some A) k).1).length f0)).setCell ⟨b0 + 1 + 1, 1, none⟩ (.int .i64 A.most)).setCell ⟨b0 + 1 + 1, 2, none⟩ (.slice e1 L.length f1)).drew).heap[kk]? = w3.heap[kk]? := fun kk hkk =>
    ((heap_setCell_other _ ⟨b0 + 1 + 1, 2, none⟩ kk _ hkk).trans (heap_setCell_other _ ⟨b0 + 1 + 1, 1, none⟩ kk _ hkk)).trans (heap_setCell_other w3 ⟨b0 + 1 + 1, 0, none⟩ kk _ hkk)
  refine bodyPost_ret (v := .tuple #[.pointer a, .agg #[.slice e0 (cellsOf (allot (some A) k).1).length f0, .int .i64 A.most, .slice e1 L.length f1], .bool true]) (by simp [results, Try.results30, go_sem, r0, r1, r2]) rfl ⟨_, A', S3, rfl, hA', ⟨?_, ?_, ?_⟩, ?_, ?_⟩
  · have h := HM3.out
    rw [hA'] at h
    exact h.frame fun kk hk => hset kk (fun e => hnS3 (e ▸ hk))
  · have e : cellsOf (allot (some A) k).1 = A'.cells := by rw [hA']; rfl
    rw [← e, hmo']
    refine RefAt.frame HR2.out fun kk hk => ?_
    have hlt := HR2.out.lt kk hk
    have hne : kk ≠ b0 + 1 + 1 ∧ kk ∉ S := by
      rcases HBL.out kk hk with h | h
      · have := HREF.out.lt kk h
        have := HB0.out
        exact ⟨by omega, HAP.out kk h⟩
      · exact ⟨by omega, fun hS => by have := (atMem_framed _).lt HS.out.mem kk hS; omega⟩
    exact (hset kk hne.1).trans ((HT3.out.1.block kk (by simp; omega) hne.2).trans (Below.heap_alloc w1 _ kk hlt))
  · intro kk hk hS3
    have hlt := HR2.out.lt kk hk
    rcases HT3.out.2 kk hS3 with h | h
    · rcases HBL.out kk hk with h2 | h2
      · exact HAP.out kk h2 h
      · have := (atMem_framed _).lt HS.out.mem kk h; omega
    · simp at h; omega
  · have hwb : w.heap.size ≤ b0 + 1 + 1 := by have := HB0.out; omega
    have ht := HS3.out.out.trans HT3.out
    exact ⟨(((ht.1.set ⟨b0 + 1 + 1, 0, none⟩ (.slice e0 (cellsOf (allot (some A) k).1).length f0) (.inr hwb)).set ⟨b0 + 1 + 1, 1, none⟩ (.int .i64 A.most) (.inr hwb)).set ⟨b0 + 1 + 1, 2, none⟩ (.slice e1 L.length f1) (.inr hwb)).drew, ht.2⟩
  · intro kk hk
    rcases HBL.out kk hk with h | h
    · exact .inl h
    · exact .inr (by have := HB0.out; omega)

end Go.Proofs.Ytejbeioiomjbpaa

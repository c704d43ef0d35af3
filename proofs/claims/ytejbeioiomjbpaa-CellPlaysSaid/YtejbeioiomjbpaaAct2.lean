/-
  The law of layer 1: act, its accesses.
-/
import Derived.Test.YtejbeioiomjbpaaAct1
namespace Go.Proofs.Ytejbeioiomjbpaa
open Go.RowKit Go.Shelf
attribute [local go_sem] Oper.semAt_some

theorem acc_some (A : Ar) (op k : Int) (f : Int → Int × Bool) : ∃ A' o d no, acc (some A) op k f = (some A', o, d, no) ∧ A'.most = A.most := by
  simp only [acc]
  split
  · exact ⟨_, _, _, _, rfl, rfl⟩
  · exact ⟨_, _, _, _, rfl, rfl⟩

/-- Do, in range or not. -/
theorem refDo_ok (v : Value) (A A' : Ar) (L L' : List Acc) (op k x y o no : Int) (f : Int → Int × Bool) (d : Bool) (hf : fOf op x y = f) (hb : A.cells.length ≤ 65536) (hL : L.length ≤ 65536)
    (hacc : acc (some A) op k f = (some A', o, d, no)) (hL' : L ++ noteOf A op k f = L') (w : World) (h : RefAt w v A.cells A.most L) :
    Calls Try.prog 67 #[v, .int .i64 op, .int .i64 k, .int .u64 x, .int .u64 y] w fun e w' => ∃ u c0 c1 c3, e = .returned (.tuple #[u, .agg #[.int .i64 c0, .int .i64 c1, .int .u64 o, .int .u64 c3, .bool d], .int .i64 no]) ∧
      RefAt w' u A'.cells A'.most L' ∧ Keeps Nothing w w' ∧ (∀ k ∈ refBlocks u, k ∈ refBlocks v ∨ w.heap.size ≤ k) := by
  subst hf hL'
  by_cases hk : 0 ≤ k ∧ k < A.cells.length
  · obtain ⟨j, rfl⟩ := Int.eq_ofNat_of_zero_le hk.1
    have hj : j < A.cells.length := by omega
    rw [acc_ok A op j _ hj] at hacc
    obtain ⟨rfl, rfl, rfl, rfl⟩ : A.does op j (fOf op x y (A.val j)).1 (fOf op x y (A.val j)).2 = A' ∧ A.val j = o ∧ (fOf op x y (A.val j)).2 = d ∧ (0 : Int) = no := by simpa using hacc
    refine (refDo_in v A L op x y j w h hj hb hL).mono ?_
    rintro e w' ⟨u, rfl, hr, hk', hbl⟩
    refine ⟨u, _, _, _, rfl, ?_, hk', hbl⟩
    rw [noteOf, if_pos hk]
    exact hr
  · rw [acc_out A op k _ (by omega)] at hacc
    obtain ⟨rfl, rfl, rfl, rfl⟩ : A = A' ∧ (0 : Int) = o ∧ false = d ∧ (4 : Int) = no := by simpa using hacc
    refine (refDo_out v A L op k x y w h (by omega)).mono ?_
    rintro e w' ⟨u, rfl, hr, hk', hbl⟩
    refine ⟨u, _, _, _, rfl, ?_, hk', hbl⟩
    rw [noteOf, if_neg hk, List.append_nil]
    exact hr

/-- The end of an act by both: the result's block br was written, and nothing else behind the arena's own call. -/
theorem act_end {v u u2 : Value} {A A' : Ar} {L L' : List Acc} {S S3 : List Nat} {w w1 w2 w3 wf : World} {br : Nat} {F : List (Nat × Obj)} (h : Pair w v u A L S) (hs : stay (AtMem v) w S F (some A) S w2) (hF : br ∈ own F) (hbr : w.heap.size ≤ br)
    (hk1 : Keeps Nothing w1 w2) (hm3 : Mem w3 v (some A') S3) (ht3 : Turn S S3 w2 w3) (hr2 : RefAt w1 u2 A'.cells A'.most L') (hbl : ∀ k ∈ refBlocks u2, k ∈ refBlocks u ∨ w.heap.size ≤ k ∧ k ≠ br) (hkf : Keeps (fun k => k = br) w3 wf) :
    Pair wf v u2 A' L' S3 ∧ Turn S S3 w wf ∧ (∀ k ∈ refBlocks u2, k ∈ refBlocks u ∨ w.heap.size ≤ k) := by
  have hnS : br ∉ S := (hs.2.2 _ hF).1
  have hlt2 : br < w2.heap.size := hs.lie.lt hF
  have hnS3 : br ∉ S3 := fun h3 => by
    rcases ht3.2 _ h3 with h | h
    · exact hnS h
    · omega
  have hS : ∀ k ∈ S, k < w.heap.size := fun k hk => Mem.lt h.mem k hk
  have hnot : ∀ k ∈ refBlocks u2, k ∉ S ∧ k ≠ br := fun k hk => by
    rcases hbl k hk with h1 | h1
    · have := h.ref.lt k h1
      exact ⟨h.apart k h1, by omega⟩
    · exact ⟨fun h2 => by have := hS k h2; omega, h1.2⟩
  refine ⟨⟨?_, ?_, ?_⟩, ?_, fun k hk => (hbl k hk).imp id And.left⟩
  · exact hm3.frame fun k hk => hkf.block k (hm3.lt k hk) (fun e => hnS3 (e ▸ hk))
  · refine hr2.frame fun k hk => ?_
    have hlt := hr2.lt k hk
    have h2 : k < w2.heap.size := Nat.lt_of_lt_of_le hlt hk1.size
    exact ((hkf.block k (Nat.lt_of_lt_of_le h2 ht3.1.size) (hnot k hk).2).trans (ht3.1.block k h2 (hnot k hk).1)).trans (hk1.block k hlt id)
  · intro k hk h3
    have hlt := hr2.lt k hk
    rcases ht3.2 k h3 with h1 | h1
    · exact (hnot k hk).1 h1
    · have := hk1.size; omega
  · have ht := hs.out.trans ht3
    exact ⟨ht.1.trans hkf (fun i hi => .inr (by rw [hi]; exact hbr)), ht.2⟩

set_option maxRecDepth 100000 in
set_option maxHeartbeats 1000000 in
theorem act01_load (v u : Value) (A : Ar) (L : List Acc) (S : List Nat) (k x y : Int) (w : World) (h : Pair w v u A L S) (hb : A.cells.length ≤ 65536) (hL : L.length ≤ 65536) (hf : A.many + 1 < 4611686018427387904) (hv : ∃ a, v = .pointer a) :
    Calls Try.prog 30 #[v, u, .agg #[.int .i64 1, .int .i64 k, .int .u64 x, .int .u64 y]] w fun e w' => ∃ u' A' S', e = .returned (.tuple #[v, u', .bool true]) ∧ (acc (some A) 1 k fLoad).1 = some A' ∧ Pair w' v u' A' (L ++ noteOf A 1 k fLoad) S' ∧
      Turn S S' w w' ∧ (∀ k ∈ refBlocks u', k ∈ refBlocks u ∨ w.heap.size ≤ k) := by
  obtain ⟨a, rfl⟩ := hv
  have HP := Lib.hid h
  obtain ⟨hmem, href, hap⟩ := h
  obtain ⟨c0, c1, rfl, hc0, hc1⟩ := href
  have href : RefAt w (.agg #[c0, .int .i64 A.most, c1]) A.cells A.most L := ⟨c0, c1, rfl, hc0, hc1⟩
  clear hc0 hc1
  obtain ⟨A', o, d, no, hacc, hmo⟩ := acc_some A 1 k fLoad
  obtain ⟨L', hL'⟩ : ∃ L', L ++ noteOf A 1 k fLoad = L' := ⟨_, rfl⟩
  have CD := refDo_ok (.agg #[c0, .int .i64 A.most, c1]) A A' L L' 1 k 0 0 o no fLoad d rfl hb hL hacc hL'
  rw [hL']
  clear hL'
  have CO := fun w1 h => Load_any (.pointer a) (some A) S k w1 h (fun B e => by cases e; exact hf)
  rw [hacc] at CO
  obtain ⟨b0, hb0⟩ : ∃ b0, w.heap.size = b0 := ⟨_, rfl⟩
  have hs : stay (AtMem (.pointer a)) w S [] (some A) S w := stay.start hmem
  have hs1 := ((hs.box (atMem_framed _) (.cells #[c0, .int .i64 A.most, c1] 59)).box (atMem_framed _) (.cells #[.int .i64 1, .int .i64 k, .int .u64 x, .int .u64 y] 41)).box (atMem_framed _) (.cells #[.slice none 0 0, .int .i64 0, .slice none 0 0] 59)
  have hr1 : RefAt (((w.alloc (.cells #[c0, .int .i64 A.most, c1] 59)).alloc (.cells #[.int .i64 1, .int .i64 k, .int .u64 x, .int .u64 y] 41)).alloc (.cells #[.slice none 0 0, .int .i64 0, .slice none 0 0] 59)) (.agg #[c0, .int .i64 A.most, c1]) A.cells A.most L := href.keep ((((Keeps.refl _ _).alloc _).alloc _).alloc _)
  simp only [World.size_alloc, hb0] at hs1
  obtain ⟨W0, hW0⟩ : ∃ W0, (((w.alloc (.cells #[c0, .int .i64 A.most, c1] 59)).alloc (.cells #[.int .i64 1, .int .i64 k, .int .u64 x, .int .u64 y] 41)).alloc (.cells #[.slice none 0 0, .int .i64 0, .slice none 0 0] 59)) = W0 := ⟨_, rfl⟩
  rw [hW0] at hs1 hr1
  have hsz : b0 + 3 = W0.heap.size := by rw [← hW0, ← hb0]; simp
  have y0 := (hs1.blk (b := b0 + 1) (cs := #[.int .i64 1, .int .i64 k, .int .u64 x, .int .u64 y]) (e := 41) (by simp)).cell 0
  have y1 := (hs1.blk (b := b0 + 1) (cs := #[.int .i64 1, .int .i64 k, .int .u64 x, .int .u64 y]) (e := 41) (by simp)).cell 1
  have x0 := (hs1.blk (b := b0) (cs := #[c0, .int .i64 A.most, c1]) (e := 59) (by simp)).cell 0
  have x1 := (hs1.blk (b := b0) (cs := #[c0, .int .i64 A.most, c1]) (e := 59) (by simp)).cell 1
  have x2 := (hs1.blk (b := b0) (cs := #[c0, .int .i64 A.most, c1]) (e := 59) (by simp)).cell 2
  simp at y0 y1 x0 x1 x2
  have HS := Lib.hid hs1
  have HR := Lib.hid hr1
  have HACC := Lib.hid hacc
  clear hmo
  have HB0 := Lib.hid hb0
  have HSZ := Lib.hid hsz
  clear hs hs1 hr1 hap href hmem hacc
  go_enter Try.func30, Try.ntmps30
  go_wp2_with first
    | (go_at_call 67; refine (CD _ HR.out).mono ?_; clear CD; rintro e w1 ⟨u', z0, z1, z3, rfl, hr2, hk2, hbl2⟩; have hs2 := HS.out.keep (atMem_framed _) hk2; obtain ⟨d0, d1, rfl, g1, g2⟩ := hr2; obtain ⟨e0, f0, rfl, _, _⟩ := ownsRow_form g1; obtain ⟨e1, f1, rfl, _, _⟩ := ownsRow_form g2; have hr3 : RefAt w1 (.agg #[.slice e0 A'.cells.length f0, .int .i64 A'.most, .slice e1 L'.length f1]) A'.cells A'.most L' := ⟨_, _, rfl, g1, g2⟩; have HR2 := Lib.hid hr3; clear hr3 g1 g2; have HS2 := Lib.hid hs2; have HBL := Lib.hid hbl2; have hs3 := (hs2.box (atMem_framed _) (.cells #[.slice e0 A'.cells.length f0, .int .i64 A'.most, .slice e1 L'.length f1] 59)).box (atMem_framed _) (.cells #[.int .i64 z0, .int .i64 z1, .int .u64 o, .int .u64 z3, .bool d] 54); have q1 := (hs3.blk (b := b0 + 1) (cs := #[.int .i64 1, .int .i64 k, .int .u64 x, .int .u64 y]) (e := 41) (by simp)).cell 1; simp at q1; have HS3 := Lib.hid hs3; clear hs2 hk2 hbl2 hs3)
    | (go_at_call 22; refine (CO _ HS3.out.mem).mono ?_; clear CO; rintro e w3 ⟨rfl, S3, hm3, ht3⟩; have HM3 := Lib.hid hm3; have HT3 := Lib.hid ht3; have HS4 := Lib.hid (HS3.out.turn hm3 ht3); clear hm3 ht3)
  have hlt1 : b0 + 3 ≤ w1.heap.size := by
    have := HS2.out.lie.lt (b := b0 + 1 + 1) (by simp [own])
    omega
  have k9 := HS4.out.blk (b := w1.heap.size) (cs := #[.slice e0 A'.cells.length f0, .int .i64 A'.most, .slice e1 L'.length f1]) (e := 59) (by simp)
  have ka := HS4.out.blk (b := w1.heap.size + 1) (cs := #[.int .i64 z0, .int .i64 z1, .int .u64 o, .int .u64 z3, .bool d]) (e := 54) (by simp)
  have kr := HS4.out.blk (b := b0 + 1 + 1) (cs := #[.slice none 0 0, .int .i64 0, .slice none 0 0]) (e := 59) (by simp)
  obtain ⟨b9, hb9⟩ : ∃ b9, w1.heap.size = b9 := ⟨_, rfl⟩
  rw [hb9] at k9 ka hlt1 ⊢
  have m0 := k9.cell 0
  have m1 := k9.cell 1
  have m2 := k9.cell 2
  have p2 := ka.cell 2
  have n0 := kr.cell 0
  have n1 := kr.cell 1
  have n2 := kr.cell 2
  have g0 := kr.frozen 0
  have g1 := kr.frozen 1
  have g2 := kr.frozen 2
  simp at m0 m1 m2 n0 n1 n2 p2
  have lr := kr.lt
  have KR := Lib.hid kr
  have far1 : ∀ (w : World) (v : Value) (o o' : Nat), (w.setCell ⟨b0 + 1 + 1, o, none⟩ v).cell? ⟨b9, o', none⟩ = w.cell? ⟨b9, o', none⟩ := fun w v o o' => cell_set_far _ _ _ _ (by dsimp only; omega)
  have far2 : ∀ (w : World) (v : Value) (o o' : Nat), (w.setCell ⟨b0 + 1 + 1, o, none⟩ v).cell? ⟨b9 + 1, o', none⟩ = w.cell? ⟨b9 + 1, o', none⟩ := fun w v o o' => cell_set_far _ _ _ _ (by dsimp only; omega)
  have ne1 : ¬ b9 = b0 + 1 + 1 := by omega
  have HB0 := Lib.hid hb0
  have HB9 := Lib.hid hb9
  clear k9 kr ka y0 y1 x0 x1 x2 q1 hW0 hb0 hb9
  go_region_held_law (fun w' => w'.cell? ⟨b9, 0, none⟩ = some (.slice e0 A'.cells.length f0) ∧ w'.cell? ⟨b9, 1, none⟩ = some (.int .i64 A'.most) ∧ w'.cell? ⟨b9, 2, none⟩ = some (.slice e1 L'.length f1) ∧ w'.cell? ⟨b9 + 1, 2, none⟩ = some (.int .u64 o))
    (first | go_keep | (simp only [far1, far2]; exact ⟨by assumption, by assumption, by assumption, by assumption⟩))
    (first | (go_simp; go_at_call 28; refine (num01_ok _ _).mono ?_; rintro e w' ⟨rfl, rfl⟩) | (go_at_call 28; refine (num01_ok _ _).mono ?_; rintro e w' ⟨rfl, rfl⟩))
  go_wp2_with fail
  have kres := ((KR.out.set 0 (.slice e0 A'.cells.length f0)).set 1 (.int .i64 A'.most)).set 2 (.slice e1 L'.length f1)
  have r0 := kres.cell 0
  have r1 := kres.cell 1
  have r2 := kres.cell 2
  simp at r0 r1 r2
  have hend := act_end HP.out HS3.out (br := b0 + 1 + 1) (by simp [own]) (by have := HB0.out; omega) (((Keeps.refl _ _).alloc _).alloc _) HM3.out HT3.out HR2.out (fun kk hk => (HBL.out kk hk).imp id fun h => ⟨by have := HB0.out; omega, by omega⟩)
    (((((Keeps.refl (fun k => k = b0 + 1 + 1) w3).set ⟨b0 + 1 + 1, 0, none⟩ (.slice e0 A'.cells.length f0) (.inl rfl)).set ⟨b0 + 1 + 1, 1, none⟩ (.int .i64 A'.most) (.inl rfl)).set ⟨b0 + 1 + 1, 2, none⟩ (.slice e1 L'.length f1) (.inl rfl)).drew)
  refine bodyPost_ret (v := .tuple #[.pointer a, .agg #[.slice e0 A'.cells.length f0, .int .i64 A'.most, .slice e1 L'.length f1], .bool true]) (by simp [results, Try.results30, go_sem, r0, r1, r2]) rfl ⟨_, A', S3, rfl, by rw [HACC.out], hend⟩

end Go.Proofs.Ytejbeioiomjbpaa

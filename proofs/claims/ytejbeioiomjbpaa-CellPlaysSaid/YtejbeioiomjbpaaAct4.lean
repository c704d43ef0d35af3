/-
  The law of layer 1: act, its Store and Copy.
-/
import Derived.Test.YtejbeioiomjbpaaAct2
namespace Go.Proofs.Ytejbeioiomjbpaa
open Go.RowKit Go.Shelf
attribute [local go_sem] Oper.semAt_some

set_option maxRecDepth 100000 in
set_option maxHeartbeats 1000000 in
theorem act01_store (v u : Value) (A : Ar) (L : List Acc) (S : List Nat) (k x y : Int) (w : World) (h : Pair w v u A L S) (hb : A.cells.length ≤ 65536) (hL : L.length ≤ 65536) (hf : A.many + 1 < 4611686018427387904) (hx : 0 ≤ x ∧ x < 18446744073709551616) (hy : 0 ≤ y ∧ y < 18446744073709551616) (hv : ∃ a, v = .pointer a) :
    Calls Try.prog 30 #[v, u, .agg #[.int .i64 2, .int .i64 k, .int .u64 x, .int .u64 y]] w fun e w' => ∃ u' A' S', e = .returned (.tuple #[v, u', .bool true]) ∧ (acc (some A) 2 k (fStore x)).1 = some A' ∧ Pair w' v u' A' (L ++ noteOf A 2 k (fStore x)) S' ∧
      Turn S S' w w' ∧ (∀ k ∈ refBlocks u', k ∈ refBlocks u ∨ w.heap.size ≤ k) := by
  obtain ⟨a, rfl⟩ := hv
  have HP := Lib.hid h
  obtain ⟨hmem, href, hap⟩ := h
  obtain ⟨c0, c1, rfl, hc0, hc1⟩ := href
  have href : RefAt w (.agg #[c0, .int .i64 A.most, c1]) A.cells A.most L := ⟨c0, c1, rfl, hc0, hc1⟩
  clear hc0 hc1
  obtain ⟨A', o, d, no, hacc, hmo⟩ := acc_some A 2 k (fStore x)
  obtain ⟨L', hL'⟩ : ∃ L', L ++ noteOf A 2 k (fStore x) = L' := ⟨_, rfl⟩
  have CD := refDo_ok (.agg #[c0, .int .i64 A.most, c1]) A A' L L' 2 k x 0 o no (fStore x) d rfl hb hL hacc hL'
  rw [hL']
  clear hL'
  have CO := fun w1 h => Store_any (.pointer a) (some A) S k x w1 h (fun B e => by cases e; exact hf) hx
  rw [hacc] at CO
  obtain ⟨b0, hb0⟩ : ∃ b0, w.heap.size = b0 := ⟨_, rfl⟩
  have hs : stay (AtMem (.pointer a)) w S [] (some A) S w := stay.start hmem
  have hs1 := ((hs.box (atMem_framed _) (.cells #[c0, .int .i64 A.most, c1] 59)).box (atMem_framed _) (.cells #[.int .i64 2, .int .i64 k, .int .u64 x, .int .u64 y] 41)).box (atMem_framed _) (.cells #[.slice none 0 0, .int .i64 0, .slice none 0 0] 59)
  have hr1 : RefAt (((w.alloc (.cells #[c0, .int .i64 A.most, c1] 59)).alloc (.cells #[.int .i64 2, .int .i64 k, .int .u64 x, .int .u64 y] 41)).alloc (.cells #[.slice none 0 0, .int .i64 0, .slice none 0 0] 59)) (.agg #[c0, .int .i64 A.most, c1]) A.cells A.most L := href.keep ((((Keeps.refl _ _).alloc _).alloc _).alloc _)
  simp only [World.size_alloc, hb0] at hs1
  obtain ⟨W0, hW0⟩ : ∃ W0, (((w.alloc (.cells #[c0, .int .i64 A.most, c1] 59)).alloc (.cells #[.int .i64 2, .int .i64 k, .int .u64 x, .int .u64 y] 41)).alloc (.cells #[.slice none 0 0, .int .i64 0, .slice none 0 0] 59)) = W0 := ⟨_, rfl⟩
  rw [hW0] at hs1 hr1
  have hsz : b0 + 3 = W0.heap.size := by rw [← hW0, ← hb0]; simp
  have y0 := (hs1.blk (b := b0 + 1) (cs := #[.int .i64 2, .int .i64 k, .int .u64 x, .int .u64 y]) (e := 41) (by simp)).cell 0
  have y1 := (hs1.blk (b := b0 + 1) (cs := #[.int .i64 2, .int .i64 k, .int .u64 x, .int .u64 y]) (e := 41) (by simp)).cell 1
  have y2 := (hs1.blk (b := b0 + 1) (cs := #[.int .i64 2, .int .i64 k, .int .u64 x, .int .u64 y]) (e := 41) (by simp)).cell 2
  have y3 := (hs1.blk (b := b0 + 1) (cs := #[.int .i64 2, .int .i64 k, .int .u64 x, .int .u64 y]) (e := 41) (by simp)).cell 3
  have x0 := (hs1.blk (b := b0) (cs := #[c0, .int .i64 A.most, c1]) (e := 59) (by simp)).cell 0
  have x1 := (hs1.blk (b := b0) (cs := #[c0, .int .i64 A.most, c1]) (e := 59) (by simp)).cell 1
  have x2 := (hs1.blk (b := b0) (cs := #[c0, .int .i64 A.most, c1]) (e := 59) (by simp)).cell 2
  simp at y0 y1 y2 y3 x0 x1 x2
  have HS := Lib.hid hs1
  have HR := Lib.hid hr1
  have HACC := Lib.hid hacc
  clear hx hy
  clear hmo
  have HB0 := Lib.hid hb0
  have HSZ := Lib.hid hsz
  clear hs hs1 hr1 hap href hmem hacc
  go_enter Try.func30, Try.ntmps30
  go_wp2_with first
    | (go_at_call 67; refine (CD _ HR.out).mono ?_; clear CD; rintro e w1 ⟨u', z0, z1, z3, rfl, hr2, hk2, hbl2⟩; have hs2 := HS.out.keep (atMem_framed _) hk2; obtain ⟨d0, d1, rfl, g1, g2⟩ := hr2; obtain ⟨e0, f0, rfl, _, _⟩ := ownsRow_form g1; obtain ⟨e1, f1, rfl, _, _⟩ := ownsRow_form g2; have hr3 : RefAt w1 (.agg #[.slice e0 A'.cells.length f0, .int .i64 A'.most, .slice e1 L'.length f1]) A'.cells A'.most L' := ⟨_, _, rfl, g1, g2⟩; have HR2 := Lib.hid hr3; clear hr3 g1 g2; have HS2 := Lib.hid hs2; have HBL := Lib.hid hbl2; have hs3 := (hs2.box (atMem_framed _) (.cells #[.slice e0 A'.cells.length f0, .int .i64 A'.most, .slice e1 L'.length f1] 59)).box (atMem_framed _) (.cells #[.int .i64 z0, .int .i64 z1, .int .u64 o, .int .u64 z3, .bool d] 54); have q1 := (hs3.blk (b := b0 + 1) (cs := #[.int .i64 2, .int .i64 k, .int .u64 x, .int .u64 y]) (e := 41) (by simp)).cell 1; have q2 := (hs3.blk (b := b0 + 1) (cs := #[.int .i64 2, .int .i64 k, .int .u64 x, .int .u64 y]) (e := 41) (by simp)).cell 2; have q3 := (hs3.blk (b := b0 + 1) (cs := #[.int .i64 2, .int .i64 k, .int .u64 x, .int .u64 y]) (e := 41) (by simp)).cell 3; simp at q1 q2 q3; have HS3 := Lib.hid hs3; clear hs2 hk2 hbl2 hs3)
  have hlt1 : b0 + 3 ≤ w1.heap.size := by
    have := HS2.out.lie.lt (b := b0 + 1 + 1) (by simp [own])
    omega
  obtain ⟨b9, hb9⟩ : ∃ b9, w1.heap.size = b9 := ⟨_, rfl⟩
  rw [hb9] at hlt1 ⊢
  have hs3 := HS3.out
  rw [World.size_alloc, hb9] at hs3
  have k9 := hs3.blk (b := b9) (cs := #[.slice e0 A'.cells.length f0, .int .i64 A'.most, .slice e1 L'.length f1]) (e := 59) (by simp)
  have m0 := k9.cell 0
  have m1 := k9.cell 1
  have m2 := k9.cell 2
  simp at m0 m1 m2
  have HS3 := Lib.hid (hs3.keep (atMem_framed _) (Keeps.refl _ _).drew)
  have far1 : ∀ (w : World) (v : Value) (o o' : Nat), (w.setCell ⟨b0 + 1 + 1, o, none⟩ v).cell? ⟨b9, o', none⟩ = w.cell? ⟨b9, o', none⟩ := fun w v o o' => cell_set_far _ _ _ _ (by dsimp only; omega)
  have far2 : ∀ (w : World) (v : Value) (o o' : Nat), (w.setCell ⟨b0 + 1 + 1, o, none⟩ v).cell? ⟨b0 + 1, o', none⟩ = w.cell? ⟨b0 + 1, o', none⟩ := fun w v o o' => cell_set_far _ _ _ _ (by dsimp only; omega)
  have ne1 : ¬ b9 = b0 + 1 + 1 := by omega
  have HB0 := Lib.hid hb0
  have HB9 := Lib.hid hb9
  clear k9 y0 y1 y2 y3 x0 x1 x2 q3 hW0 hb0 hb9 hs3
  go_region_held_law (fun w' => w'.cell? ⟨b9, 0, none⟩ = some (.slice e0 A'.cells.length f0) ∧ w'.cell? ⟨b9, 1, none⟩ = some (.int .i64 A'.most) ∧ w'.cell? ⟨b9, 2, none⟩ = some (.slice e1 L'.length f1) ∧ w'.cell? ⟨b0 + 1, 1, none⟩ = some (.int .i64 k) ∧ w'.cell? ⟨b0 + 1, 2, none⟩ = some (.int .u64 x))
    (first | go_keep | (simp only [far1, far2]; exact ⟨by assumption, by assumption, by assumption, by assumption, by assumption⟩))
    (first | ((try go_simp); go_at_call 23; refine (CO _ HS3.out.mem).mono ?_; clear CO; rintro e w3 ⟨rfl, S3, hm3, ht3⟩; have HM3 := Lib.hid hm3; have HT3 := Lib.hid ht3; have HS4 := Lib.hid (HS3.out.turn hm3 ht3); clear hm3 ht3; have k9 := HS4.out.blk (b := b9) (cs := #[.slice e0 A'.cells.length f0, .int .i64 A'.most, .slice e1 L'.length f1]) (e := 59) (by simp); have kx := HS4.out.blk (b := b0 + 1) (cs := #[.int .i64 2, .int .i64 k, .int .u64 x, .int .u64 y]) (e := 41) (by simp); have kr := HS4.out.blk (b := b0 + 1 + 1) (cs := #[.slice none 0 0, .int .i64 0, .slice none 0 0]) (e := 59) (by simp); have s0 := k9.cell 0; have s1 := k9.cell 1; have s2 := k9.cell 2; have t1 := kx.cell 1; have t2 := kx.cell 2; have n0 := kr.cell 0; have n1 := kr.cell 1; have n2 := kr.cell 2; have g0 := kr.frozen 0; have g1 := kr.frozen 1; have g2 := kr.frozen 2; simp at s0 s1 s2 t1 t2 n0 n1 n2; have lr := kr.lt; have KR := Lib.hid kr; clear k9 kx kr) | ((try go_simp); go_at_call 28; refine (num01_ok _ _).mono ?_; rintro e w' ⟨rfl, rfl⟩))
  go_wp2_with fail
  have kres := ((KR.out.set 0 (.slice e0 A'.cells.length f0)).set 1 (.int .i64 A'.most)).set 2 (.slice e1 L'.length f1)
  have r0 := kres.cell 0
  have r1 := kres.cell 1
  have r2 := kres.cell 2
  simp at r0 r1 r2
  have hend := act_end HP.out HS3.out (br := b0 + 1 + 1) (by simp [own]) (by have := HB0.out; omega) (((Keeps.refl _ _).alloc _).alloc _).drew HM3.out HT3.out HR2.out (fun kk hk => (HBL.out kk hk).imp id fun h => ⟨by have := HB0.out; omega, by omega⟩)
    (((((Keeps.refl (fun k => k = b0 + 1 + 1) w3).set ⟨b0 + 1 + 1, 0, none⟩ (.slice e0 A'.cells.length f0) (.inl rfl)).set ⟨b0 + 1 + 1, 1, none⟩ (.int .i64 A'.most) (.inl rfl)).set ⟨b0 + 1 + 1, 2, none⟩ (.slice e1 L'.length f1) (.inl rfl)))
  refine bodyPost_ret (v := .tuple #[.pointer a, .agg #[.slice e0 A'.cells.length f0, .int .i64 A'.most, .slice e1 L'.length f1], .bool true]) (by simp [results, Try.results30, go_sem, r0, r1, r2]) rfl ⟨_, A', S3, rfl, by rw [HACC.out], hend⟩


set_option maxRecDepth 100000 in
set_option maxHeartbeats 1000000 in
theorem act01_copy (v u : Value) (A : Ar) (L : List Acc) (S : List Nat) (what k x y : Int) (w : World) (h : Pair w v u A L S) (hv : ∃ a, v = .pointer a) (n0 : what ≠ 0) (n1 : what ≠ 1) (n2 : what ≠ 2) (n3 : what ≠ 3) (n4 : what ≠ 4) (n5 : what ≠ 5) :
    Calls Try.prog 30 #[v, u, .agg #[.int .i64 what, .int .i64 k, .int .u64 x, .int .u64 y]] w fun e w' => ∃ v' S', e = .returned (.tuple #[v', u, .bool true]) ∧ (∃ q, v' = .pointer (some ⟨q, 0, none⟩)) ∧ Pair w' v' u A L S' ∧
      Turn S S' w w' := by
  obtain ⟨a, rfl⟩ := hv
  obtain ⟨hmem, href, hap⟩ := h
  obtain ⟨c0, c1, rfl, hc0, hc1⟩ := href
  have href : RefAt w (.agg #[c0, .int .i64 A.most, c1]) A.cells A.most L := ⟨c0, c1, rfl, hc0, hc1⟩
  obtain ⟨e0, f0, rfl, _, _⟩ := ownsRow_form hc0
  obtain ⟨e1, f1, rfl, _, _⟩ := ownsRow_form hc1
  clear hc0 hc1
  obtain ⟨b0, hb0⟩ : ∃ b0, w.heap.size = b0 := ⟨_, rfl⟩
  have hS : ∀ k ∈ S, k < w.heap.size := fun k hk => Mem.lt hmem k hk
  have hs : stay (AtMem (.pointer a)) w S [] (some A) S w := stay.start hmem
  have hs1 := ((hs.box (atMem_framed _) (.cells #[(.slice e0 A.cells.length f0), .int .i64 A.most, (.slice e1 L.length f1)] 59)).box (atMem_framed _) (.cells #[.int .i64 what, .int .i64 k, .int .u64 x, .int .u64 y] 41)).box (atMem_framed _) (.cells #[.slice none 0 0, .int .i64 0, .slice none 0 0] 59)
  have hk0 : Keeps Nothing w (((w.alloc (.cells #[(.slice e0 A.cells.length f0), .int .i64 A.most, (.slice e1 L.length f1)] 59)).alloc (.cells #[.int .i64 what, .int .i64 k, .int .u64 x, .int .u64 y] 41)).alloc (.cells #[.slice none 0 0, .int .i64 0, .slice none 0 0] 59)) := (((Keeps.refl _ _).alloc _).alloc _).alloc _
  simp only [World.size_alloc, hb0] at hs1
  obtain ⟨W0, hW0⟩ : ∃ W0, (((w.alloc (.cells #[(.slice e0 A.cells.length f0), .int .i64 A.most, (.slice e1 L.length f1)] 59)).alloc (.cells #[.int .i64 what, .int .i64 k, .int .u64 x, .int .u64 y] 41)).alloc (.cells #[.slice none 0 0, .int .i64 0, .slice none 0 0] 59)) = W0 := ⟨_, rfl⟩
  rw [hW0] at hs1 hk0
  have hsz : b0 + 3 = W0.heap.size := by rw [← hW0, ← hb0]; simp
  have y0 := (hs1.blk (b := b0 + 1) (cs := #[.int .i64 what, .int .i64 k, .int .u64 x, .int .u64 y]) (e := 41) (by simp)).cell 0
  have x0 := (hs1.blk (b := b0) (cs := #[(.slice e0 A.cells.length f0), .int .i64 A.most, (.slice e1 L.length f1)]) (e := 59) (by simp)).cell 0
  have x1 := (hs1.blk (b := b0) (cs := #[(.slice e0 A.cells.length f0), .int .i64 A.most, (.slice e1 L.length f1)]) (e := 59) (by simp)).cell 1
  have x2 := (hs1.blk (b := b0) (cs := #[(.slice e0 A.cells.length f0), .int .i64 A.most, (.slice e1 L.length f1)]) (e := 59) (by simp)).cell 2
  simp at y0 x0 x1 x2
  have HS := Lib.hid (hs1.keep (atMem_framed _) (Keeps.refl _ _).drew)
  have HREF := Lib.hid href
  have HK0 := Lib.hid hk0
  have HB0 := Lib.hid hb0
  have HSZ := Lib.hid hsz
  clear hs hs1 hap href hmem hk0 hsz
  go_enter Try.func30, Try.ntmps30
  go_upto_region 22 with fail
  have far1 : ∀ (w : World) (v : Value) (o o' : Nat), (w.setCell ⟨b0 + 1 + 1, o, none⟩ v).cell? ⟨b0, o', none⟩ = w.cell? ⟨b0, o', none⟩ := fun w v o o' => cell_set_far _ _ _ _ (by dsimp only; omega)
  clear hW0 y0 hb0
  go_region_held_law (fun w' => w'.cell? ⟨b0, 0, none⟩ = some (.slice e0 A.cells.length f0) ∧ w'.cell? ⟨b0, 1, none⟩ = some (.int .i64 A.most) ∧ w'.cell? ⟨b0, 2, none⟩ = some (.slice e1 L.length f1))
    (first | go_keep | (simp only [far1]; exact ⟨by assumption, by assumption, by assumption⟩))
    (first | ((try go_simp); go_at_call 48; refine (Copy_any (.pointer a) (some A) S _ HS.out.mem).mono ?_; rintro e w3 ⟨u2, T, rfl, hm3, hT, hk3, h3 | ⟨-, q, rfl⟩⟩; exact absurd h3.1 (by simp); have hs4 := HS.out.keep (atMem_framed _) hk3; have k9 := hs4.blk (b := b0) (cs := #[(.slice e0 A.cells.length f0), .int .i64 A.most, (.slice e1 L.length f1)]) (e := 59) (by simp); have kr := hs4.blk (b := b0 + 1 + 1) (cs := #[.slice none 0 0, .int .i64 0, .slice none 0 0]) (e := 59) (by simp); have s0 := k9.cell 0; have s1 := k9.cell 1; have s2 := k9.cell 2; have n0 := kr.cell 0; have n1 := kr.cell 1; have n2 := kr.cell 2; have g0 := kr.frozen 0; have g1 := kr.frozen 1; have g2 := kr.frozen 2; simp at s0 s1 s2 n0 n1 n2; have lr := kr.lt; have KR := Lib.hid kr; have HM3 := Lib.hid hm3; have HT := Lib.hid hT; have HK3 := Lib.hid hk3; clear k9 kr hs4 hm3 hT hk3))
  go_wp2_with fail
  have kres := ((KR.out.set 0 (.slice e0 A.cells.length f0)).set 1 (.int .i64 A.most)).set 2 (.slice e1 L.length f1)
  have r0 := kres.cell 0
  have r1 := kres.cell 1
  have r2 := kres.cell 2
  simp at r0 r1 r2
  have hwb : w.heap.size ≤ b0 + 1 + 1 := by have := HB0.out; omega
  have hkw := (((((HK0.out.then (Keeps.refl _ _).drew)).then HK3.out).set ⟨b0 + 1 + 1, 0, none⟩ (.slice e0 A.cells.length f0) (.inr hwb)).set ⟨b0 + 1 + 1, 1, none⟩ (.int .i64 A.most) (.inr hwb)).set ⟨b0 + 1 + 1, 2, none⟩ (.slice e1 L.length f1) (.inr hwb)
  have hTw : ∀ k ∈ T, b0 + 3 ≤ k := fun k hk => by have := HT.out k hk; have := HSZ.out; simp at *; omega
  have hkf := (((Keeps.refl (fun k => k = b0 + 1 + 1) w3).set ⟨b0 + 1 + 1, 0, none⟩ (.slice e0 A.cells.length f0) (.inl rfl)).set ⟨b0 + 1 + 1, 1, none⟩ (.int .i64 A.most) (.inl rfl)).set ⟨b0 + 1 + 1, 2, none⟩ (.slice e1 L.length f1) (.inl rfl)
  refine bodyPost_ret (v := .tuple #[.pointer (some ⟨q, 0, none⟩), .agg #[(.slice e0 A.cells.length f0), .int .i64 A.most, (.slice e1 L.length f1)], .bool true]) (by simp [results, Try.results30, go_sem, r0, r1, r2]) rfl
    ⟨_, T, rfl, ⟨q, rfl⟩, ⟨HM3.out.frame fun k hk => hkf.block k (HM3.out.lt k hk) (by have := hTw k hk; omega), HREF.out.keep hkw, fun k hk hT => by have := HREF.out.lt k hk; have := hTw k hT; have := HB0.out; omega⟩, ⟨hkw.nothing, fun k hk => .inr (by have := hTw k hk; have := HB0.out; omega)⟩⟩


end Go.Proofs.Ytejbeioiomjbpaa

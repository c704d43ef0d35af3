/-
  The law of layer 1: does an arena stand as the document's? It does.
-/
import Derived.Test.YtejbeioiomjbpaaCellNoneW
import Derived.Test.YtejbeioiomjbpaaRef3
import Derived.Test.YtejbeioiomjbpaaMixR
import Derived.Test.YtejbeioiomjbpaaAct5
import Derived.Deep.QuietTactic
import Derived.BigQuiet
import Derived.BigGuardPart
namespace Go.Proofs.Ytejbeioiomjbpaa
open Go.RowKit Go.Shelf
attribute [local go_sem] Oper.semAt_some

@[go_sem] theorem run_max_int {P : Program} (ts : Array TypeId) (t : TypeId) (k k' : IntKind) (x y : Int) (w : World) : (Builtin.max_ ts t #[.int k x, .int k' y]).run P w = .ok (.int k (if y > x then y else x)) w := rfl
@[go_sem] theorem run_min_int {P : Program} (ts : Array TypeId) (t : TypeId) (k k' : IntKind) (x y : Int) (w : World) : (Builtin.min_ ts t #[.int k x, .int k' y]).run P w = .ok (.int k (if y < x then y else x)) w := rfl

set_option maxRecDepth 100000 in
set_option maxHeartbeats 4000000 in
theorem is01_ok (v u : Value) (A : Ar) (L : List Acc) (S : List Nat) (many : Int) (w : World) (h : Pair w v u A L S) (hst : InStep A L 1024) :
    Calls Try.prog 32 #[v, u, .int .i64 many] w fun e w' => e = .returned (.bool true) ∧ Keeps Nothing w w' := by
  obtain ⟨hL, hcnt, hmost⟩ := hst
  subst hL
  have hring : A.ring.length ≤ 1024 := by omega
  have HP := Lib.hid h
  obtain ⟨c0, c1, rfl, hc0, hc1⟩ := h.ref
  obtain ⟨e0, f0, rfl, _, _⟩ := ownsRow_form hc0
  obtain ⟨e1, f1, rfl, _, _⟩ := ownsRow_form hc1
  clear hc0 hc1 h
  obtain ⟨b0, hb0⟩ : ∃ b0, w.heap.size = b0 := ⟨_, rfl⟩
  have hs0 : stay NoM w [] [] () [] w := stay.start rfl
  have hs1 := ((hs0.box noM_framed (.cells #[.slice e0 A.cells.length f0, .int .i64 A.most, .slice e1 A.ring.length f1] 59)).box noM_framed (.cells #[.int .i64 many] 3)).box noM_framed (.cells #[.bool false] 4)
  simp only [World.size_alloc, hb0] at hs1
  obtain ⟨W0, hW0⟩ : ∃ W0, ((w.alloc (.cells #[.slice e0 A.cells.length f0, .int .i64 A.most, .slice e1 A.ring.length f1] 59)).alloc (.cells #[.int .i64 many] 3)).alloc (.cells #[.bool false] 4) = W0 := ⟨_, rfl⟩
  rw [hW0] at hs1
  have x0 := (hs1.blk (b := b0) (cs := #[.slice e0 A.cells.length f0, .int .i64 A.most, .slice e1 A.ring.length f1]) (e := 59) (by simp)).cell 0
  have x1 := (hs1.blk (b := b0) (cs := #[.slice e0 A.cells.length f0, .int .i64 A.most, .slice e1 A.ring.length f1]) (e := 59) (by simp)).cell 1
  have x2 := (hs1.blk (b := b0) (cs := #[.slice e0 A.cells.length f0, .int .i64 A.most, .slice e1 A.ring.length f1]) (e := 59) (by simp)).cell 2
  simp at x0 x1 x2
  have HS := Lib.hid hs1
  clear hs0 hs1
  refine calls_of_wpN Try.func32 rfl ?_
  simp only [Try.ntmps32, List.size_toArray, List.length_cons, List.length_nil, Nat.reduceAdd, Nat.reduceSub, Array.replicate_succ, Array.replicate_zero, List.push_toArray, List.append_toArray, List.nil_append, List.cons_append]
  go_upto_region 3 with first
    | (go_at_call 68; refine (refLast_ok _ A.cells A.most A.ring _ (HP.out.ref.keep HS.out.nothing) hring).mono ?_; rintro e w1 ⟨lv, rfl, hrow, hbl, hk1⟩; have hs2 := HS.out.keep noM_framed hk1; obtain ⟨el, fl, rfl, _, _⟩ := ownsRow_form hrow; have hrow1 := ownsRow_kept hrow fun k hk => hk1.block k (by obtain ⟨cs, hcs⟩ := ownsRow_blk hrow hk; exact hcs.lt) id; have hs3 := (hs2.box noM_framed (.cells #[.int .i64 0] 3)).box noM_framed (.cells #[.slice el A.ring.length fl] 57); have HROW := Lib.hid (ownsRow_kept hrow fun k hk => (HS.out.nothing.block k (HP.out.ref.lt k (hbl k hk)) id).symm); have HBL := Lib.hid (fun k hk => HP.out.ref.lt k (hbl k hk)); have HS3 := Lib.hid hs3; clear hrow hrow1 hbl hs2 hs3 hk1)
    | (go_at_call 27; refine (Log_stay_any (X := some A) (S := S) noM_framed HS3.out (HP.out.mem.keep HS3.out.nothing) (fun B e => by cases e; omega)).mono ?_; rintro e w2 ⟨bl, bf, u, G, rfl, hs4, hlog, hnew⟩; have HS4 := Lib.hid hs4; have HLOG := Lib.hid hlog; have HNEW := Lib.hid hnew; clear hs4 hlog hnew)
  have hm4 : Mem w2 v (some A) S := HP.out.mem.keep HS4.out.nothing
  have k0 := HS4.out.blk (b := b0) (cs := #[.slice e0 A.cells.length f0, .int .i64 A.most, .slice e1 A.ring.length f1]) (e := 59) (by simp)
  have y0 := k0.cell 0
  have y1 := k0.cell 1
  have y2 := k0.cell 2
  simp at y0 y1 y2
  clear k0 hW0 x0 x1 x2
  have hcl : ((A.cells.length : Nat) : Int) ≤ 65536 := by have := hm4; obtain ⟨p, _, hA⟩ := this; have := hA.1.fits; have := hA.1.most2; omega
  have hci : (A.many : Int) = A.ring.length := by omega
  have hwr : ((A.ring.length : Nat) : Int) < 18446744073709551616 := by omega
  have CL : ∀ W, Mem W v (some A) S → Calls Try.prog 46 #[v] W fun e w' => e = .returned (.int .i64 A.cells.length) ∧ W = w' := fun W h => Len_any h
  have CM : ∀ W, Mem W v (some A) S → Calls Try.prog 47 #[v] W fun e w' => e = .returned (.int .i64 A.most) ∧ W = w' := fun W h => Most_any h
  have CC : ∀ W, Mem W v (some A) S → Calls Try.prog 26 #[v] W fun e w' => e = .returned (.int .u64 A.ring.length) ∧ W = w' := fun W h => (Count_any h).mono fun e w' h => ⟨h.1.trans (congrArg (fun z => Ending.returned (Value.int .u64 z)) hci), h.2⟩
  go_quiet (first
    | (go_at_call 46; refine Calls.quiet_of_same ((CL _ (hm4.keep ((Keeps.refl _ _).drewN _))).mono fun _ _ h => ⟨h.1, h.2.symm⟩))
    | (go_at_call 47; refine Calls.quiet_of_same ((CM _ (hm4.keep ((Keeps.refl _ _).drewN _))).mono fun _ _ h => ⟨h.1, h.2.symm⟩))
    | (go_at_call 26; refine Calls.quiet_of_same ((CC _ (hm4.keep ((Keeps.refl _ _).drewN _))).mono fun _ _ h => ⟨h.1, h.2.symm⟩)))
  clear CL CM CC
  obtain ⟨w8, hw8⟩ : ∃ w8, w2.drewN nq = w8 := ⟨_, rfl⟩
  have hs8 := HS4.out.keep noM_framed ((Keeps.refl _ _).drewN nq)
  rw [hw8] at hs8 ⊢
  clear hw8 y0 y1 y2
  obtain ⟨b7, hb7⟩ : ∃ b7, w1.heap.size = b7 := ⟨_, rfl⟩
  simp only [World.size_alloc, hb7] at hs8 ⊢
  clear hb7 HS HS3 HS4
  go_upto_block 0 with fail
  obtain ⟨bn, hbn⟩ : ∃ bn, w8.heap.size = bn := ⟨_, rfl⟩
  obtain ⟨R, hR⟩ : ∃ R, G ++ [(b7 + 1, Obj.cells #[.slice el A.ring.length fl] 57 (0, 0)), (b7, .cells #[.int .i64 0] 3 (0, 0)), (b0 + 1 + 1, .cells #[.bool false] 4 (0, 0)), (b0 + 1, .cells #[.int .i64 many] 3 (0, 0)), (b0, .cells #[.slice e0 A.cells.length f0, .int .i64 A.most, .slice e1 A.ring.length f1] 59 (0, 0))] = R := ⟨_, rfl⟩
  have hRG : ∀ y ∈ G, y ∈ R := by rw [← hR]; intro y hy; simp [hy]
  have hR1 : (b7 + 1, Obj.cells #[.slice el A.ring.length fl] 57 (0, 0)) ∈ R := by rw [← hR]; simp
  have hR2 : (b7, Obj.cells #[.int .i64 0] 3 (0, 0)) ∈ R := by rw [← hR]; simp
  have hR3 : (b0 + 1 + 1, Obj.cells #[.bool false] 4 (0, 0)) ∈ R := by rw [← hR]; simp
  have hR4 : (b0 + 1, Obj.cells #[.int .i64 many] 3 (0, 0)) ∈ R := by rw [← hR]; simp
  have hs9 : stay NoM w [] ((bn, Obj.cells #[.int .i64 (([] : List Acc).length : Nat)] 3 (0, 0)) :: R) () [] (w8.alloc (.cells #[.int .i64 0] 3)) := by
    have h := hs8.box noM_framed (.cells #[.int .i64 0] 3)
    rw [hbn, hR] at h
    exact h
  have hbnR : bn ∉ own R := fun h => by
    rw [← hR] at h
    have := hs8.lie.lt h
    omega
  rw [hbn]
  obtain ⟨w9, hw9⟩ : ∃ w9, w8.alloc (.cells #[.int .i64 0] 3) = w9 := ⟨_, rfl⟩
  rw [hw9] at hs9 ⊢
  clear hs8 hw9 hbn hR
  go_wp2_with fail
  have hq := Log1_seq (M := NoM) noM_framed () bl bf u 0 A.ring hring (by omega)
  refine wp_range_seqB noM_framed hq rfl (enters_of Try.func65 (by kernel_rfl) rfl) (fun _ _ => rfl)
    (fun X S U pre W => (pre ≠ [] → (pre.length : Int) < many) ∧ inner (base NoM w []) ((bn, Obj.cells #[.int .i64 (pre.length : Nat)] 3 (0, 0)) :: R) X S U pre W)
    (fun c X S U pre W => (c = .exit 0 ∧ 1 ≤ pre.length ∧ (pre.length : Int) = max 1 many) ∧ inner (base NoM w []) ((bn, Obj.cells #[.int .i64 (pre.length : Nat)] 3 (0, 0)) :: R) X S U pre W)
    ⟨fun h => (inner_rides base_rides _).mem h.2, fun h hm ht => ⟨h.1, (inner_rides base_rides _).turn h.2 hm ht⟩⟩ (fun _ => ⟨fun h => (inner_rides base_rides _).mem h.2, fun h hm ht => ⟨h.1, (inner_rides base_rides _).turn h.2 hm ht⟩⟩)
    (fun h => HLOG.out _ fun y hy => h.2.2.1 y (List.mem_cons_of_mem _ (hRG y hy))) _ ⟨fun h => absurd rfl h, hs9.to_loop []⟩ ?round ?done ?stop
  case round =>
    rename_i Q1 K1
    intro l2 m x S4 U4 pre b W3 hpre hj hl hlU hlS
    obtain ⟨hjm, hj⟩ := hj
    have hlen := hpre.length_le
    simp only [List.length_append, List.length_cons, List.length_nil] at hlen
    have hb : A.ring[pre.length]? = some b := by
      obtain ⟨t, ht⟩ := hpre
      rw [← ht]; simp
    have hk : Keeps Nothing W3 (W3.alloc (.cells b.enc.toArray 54)) := (Keeps.refl _ _).alloc _
    have hj1 := (inner_rides base_rides _).turn hj (noM_framed.keep hj.1.1 fun k hk' => hk.block k (noM_framed.lt hj.1.1 k hk') id) ⟨hk.nothing, fun _ h => .inl h⟩
    have hbx : Blk (W3.alloc (.cells b.enc.toArray 54)) W3.heap.size b.enc.toArray 54 := Blk.new _ _ _
    have HJ := Lib.hid hj1
    have HX := Lib.hid hbx
    have HK := Lib.hid hk
    have HJM := Lib.hid hjm
    clear hj1 hbx hk hj hjm
    simp only [Acc.enc] at HJ HX HK ⊢
    clear hq hs9 hpre
    gi_wp2
    refine ⟨⟨HJM.out, HJ.out⟩, ⟨HK.out.size, fun k _ hlt => HK.out.block k hlt id⟩, ?_⟩
    intro o hj2
    replace hj2 := hj2.2
    have hbx := HX.out.put (Nat.ne_of_gt hl) o
    obtain ⟨W4, hW4⟩ : ∃ W4, ((W3.alloc (.cells #[.int .i64 b.op, .int .i64 b.at_, .int .u64 b.old, .int .u64 b.new, .bool b.did] 54)).putObj l2 o) = W4 := ⟨_, rfl⟩
    rw [hW4] at hbx hj2 ⊢
    clear hW4
    have x0 := hbx.cell 0
    have x1 := hbx.cell 1
    have x2 := hbx.cell 2
    have x3 := hbx.cell 3
    have x4 := hbx.cell 4
    simp at x0 x1 x2 x3 x4
    have kn : Blk W4 bn #[.int .i64 (pre.length : Nat)] 3 := hj2.2.1 (bn, _) (by simp)
    have k8 : Blk W4 (b7 + 1) #[.slice el A.ring.length fl] 57 := hj2.2.1 (b7 + 1, _) (List.mem_cons_of_mem _ hR1)
    have k7 : Blk W4 b7 #[.int .i64 0] 3 := hj2.2.1 (b7, _) (List.mem_cons_of_mem _ hR2)
    have k5 : Blk W4 (b0 + 1) #[.int .i64 many] 3 := hj2.2.1 (b0 + 1, _) (List.mem_cons_of_mem _ hR4)
    have hkw : Keeps Nothing w W4 := hj2.1.2.1.mono fun _ hk => by simp at hk
    have hrow4 := ownsRow_kept HROW.out fun k hk => hkw.block k (HBL.out k hk) id
    obtain ⟨g, rfl⟩ : ∃ g, el = some ⟨g, 0, none⟩ := by
      rcases hrow4.2 with ⟨hn, h0⟩ | ⟨g, cap', cur, hv, _⟩
      · omega
      · cases hv; exact ⟨g, rfl⟩
    have d0 : W4.cell? ⟨g, pre.length * 5, none⟩ = some (.int .i64 b.op) := rowA_cell hrow4 (j := 0) hb rfl
    have d1 : W4.cell? ⟨g, pre.length * 5 + 1, none⟩ = some (.int .i64 b.at_) := rowA_cell hrow4 (j := 1) hb rfl
    have d2 : W4.cell? ⟨g, pre.length * 5 + 2, none⟩ = some (.int .u64 b.old) := rowA_cell hrow4 (j := 2) hb rfl
    have d3 : W4.cell? ⟨g, pre.length * 5 + 3, none⟩ = some (.int .u64 b.new) := rowA_cell hrow4 (j := 3) hb rfl
    have d4 : W4.cell? ⟨g, pre.length * 5 + 4, none⟩ = some (.bool b.did) := rowA_cell hrow4 (j := 4) hb rfl
    have n0 := kn.cell 0
    have a0 := k8.cell 0
    have f7 := k7.cell 0
    have m5 := k5.cell 0
    simp at n0 a0 f7 m5
    have nf := kn.frozen 0
    have ln := kn.lt
    have hpl : pre.length < A.ring.length := by omega
    have hpl1 : ¬ A.ring.length ≤ pre.length := by omega
    have hkd : Keeps Nothing W4 W4.drew := (Keeps.refl _ _).drew
    have hj3 := (inner_rides base_rides _).turn hj2 (noM_framed.keep hj2.1.1 fun k hk' => hkd.block k (noM_framed.lt hj2.1.1 k hk') id) ⟨hkd.nothing, fun _ h => .inl h⟩
    have hfin := inner_set1 (v := .int .i64 ((pre.length : Int) + 1)) (pre' := pre ++ [b]) noM_framed hj3 hbnR
    have e2 : (pre.length : Int) + 1 = ((pre ++ [b]).length : Nat) := by simp
    have m6 := (k5.other (a := ⟨bn, 0, none⟩) (fun h => hbnR (by dsimp only at h; rw [← h]; exact List.mem_map.2 ⟨_, hR4, rfl⟩)) (.int .i64 ((pre.length : Int) + 1))).cell 0
    simp at m6
    have HFIN := Lib.hid hfin
    have E2 := Lib.hid e2
    clear hfin e2 hj2 hj3 hkd kn k8 k7 k5 hkw hrow4 hbx HJ HX HK hb hlen hmost hcnt hci
    gi_wp2
    refine wpIn_mixk (by kernel_rfl) (by kernel_rfl) ?_
    intro K3 hK3
    have HK3 := Lib.hid hK3
    clear hK3
    try simp only [List.append_eq, List.cons_append, List.nil_append]
    go_wp2
    refine HK3.out _ _ ⟨by kernel_rfl, ?_⟩
    by_cases hbrk : many ≤ (pre.length : Int) + 1
    · gi_wp2
      refine ⟨⟨⟨rfl, by simp, ?_⟩, ?_⟩, Same.trans ⟨Nat.le_refl _, fun _ _ _ => rfl⟩ HFIN.out.2⟩
      · have hjm := HJM.out
        by_cases hp : pre = []
        · subst hp; simp at hbrk ⊢; omega
        · have := hjm hp; simp; omega
      · have hf := HFIN.out.1
        rw [← E2.out]
        exact hf
    · gi_wp2
      refine ⟨⟨fun _ => ?_, ?_⟩, Same.trans ⟨Nat.le_refl _, fun _ _ _ => rfl⟩ HFIN.out.2⟩
      · simp; omega
      · have hf := HFIN.out.1
        rw [← E2.out]
        exact hf
  case done =>
    intro S4 U4 Wz hj hD hDU hDS
    obtain ⟨hjm, hj⟩ := hj
    have hs : stay NoM w [] ((w9.heap.size, .deferred (some [])) :: (bn, Obj.cells #[.int .i64 (A.ring.length : Nat)] 3 (0, 0)) :: R) () S4 Wz := stay.of_loop hj hD hDU hDS
    obtain ⟨D1, hD1⟩ : ∃ D1, w9.heap.size = D1 := ⟨_, rfl⟩
    rw [hD1] at hs ⊢
    have k8 := hs.blk (b := b7 + 1) (cs := #[.slice el A.ring.length fl]) (e := 57) (by simp [hR1])
    have k5 := hs.blk (b := b0 + 1) (cs := #[.int .i64 many]) (e := 3) (by simp [hR4])
    have k6 := hs.blk (b := b0 + 1 + 1) (cs := #[.bool false]) (e := 4) (by simp [hR3])
    have kn := hs.blk (b := bn) (cs := #[.int .i64 (A.ring.length : Nat)]) (e := 3) (by simp)
    have a0 := k8.cell 0
    have m0 := k5.cell 0
    have r0 := k6.cell 0
    have n0 := kn.cell 0
    have rf := k6.frozen 0
    have rl := k6.lt
    simp at a0 m0 r0 n0
    have K6 := Lib.hid k6
    have hkw := hs.nothing
    have HKW := Lib.hid hkw
    have hne : D1 ≠ b0 + 1 + 1 := fun h => k6.ne_obj (o := .deferred (some [])) (k := D1) (by rw [← hD1]; exact hD) rfl h.symm
    have hr0 := ((K6.out.set 0 (.bool true)).shut [D1] (by simp; exact fun h => hne h.symm)).cell 0
    simp [World.shut] at hr0
    have hfk : Keeps Nothing w (World.shut (Wz.setCell ⟨b0 + 1 + 1, 0, none⟩ (.bool true)) [D1]) := (HKW.out.set _ _ (.inr (hs.own_new (b := b0 + 1 + 1) (by simp only [own, List.map_cons, List.mem_cons]; exact .inr (.inr (List.mem_map.2 ⟨_, hR3, rfl⟩)))))).shut [D1] (by intro D h; simp only [List.mem_singleton] at h; subst h; exact .inr (hs.own_new (by simp [own])))
    have HNE := Lib.hid hne
    have HR0 := Lib.hid hr0
    have HFK := Lib.hid hfk
    have HD := Lib.hid (show Wz.heap[D1]? = some (.deferred (some [])) by rw [← hD1]; exact hD)
    clear hne hr0 hfk
    have hcase : ((A.ring.length : Int) = 0) ∨ (1 < many ∧ ¬ many < (A.ring.length : Int)) := by
      by_cases hp : A.ring = []
      · exact .inl (by simp [hp])
      · have := hjm hp
        have : 0 < A.ring.length := List.length_pos_iff.2 hp
        exact .inr (by omega)
    have HC := Lib.hid hcase
    clear hcase hj hD hDU hDS hq hs9 k8 k5 k6 kn hkw hs hD1 hjm hcl hci hwr hcnt hmost hm4 hRG hbnR
    by_cases h1 : 1 < many
    · have h2 : ¬ many < (A.ring.length : Int) := by have := HC.out; omega
      go_wp2
      refine bodyN_ret (v := .bool true) [D1] rfl (by intro D h; simp only [List.mem_singleton] at h; subst h; exact (heap_setCell_other Wz ⟨b0 + 1 + 1, 0, none⟩ D (.bool true) HNE.out).trans HD.out) (by simp) (by simp [results, Try.results32, go_sem, World.shut, HR0.out]) ⟨rfl, HFK.out⟩
    · have h2 : ¬ 1 < (A.ring.length : Int) := by have := HC.out; omega
      go_wp2
      refine bodyN_ret (v := .bool true) [D1] rfl (by intro D h; simp only [List.mem_singleton] at h; subst h; exact (heap_setCell_other Wz ⟨b0 + 1 + 1, 0, none⟩ D (.bool true) HNE.out).trans HD.out) (by simp) (by simp [results, Try.results32, go_sem, World.shut, HR0.out]) ⟨rfl, HFK.out⟩
  case stop =>
    intro c pre x S4 U4 Wz hpre hj hD hDU hDS
    obtain ⟨⟨rfl, hp1, hpm⟩, hj⟩ := hj
    have hs : stay NoM w [] ((w9.heap.size, .deferred (some [])) :: (bn, Obj.cells #[.int .i64 (pre.length : Nat)] 3 (0, 0)) :: R) x S4 Wz := stay.of_loop hj hD hDU hDS
    have hlen := hpre.length_le
    obtain ⟨D1, hD1⟩ : ∃ D1, w9.heap.size = D1 := ⟨_, rfl⟩
    rw [hD1] at hs ⊢
    have k8 := hs.blk (b := b7 + 1) (cs := #[.slice el A.ring.length fl]) (e := 57) (by simp [hR1])
    have k5 := hs.blk (b := b0 + 1) (cs := #[.int .i64 many]) (e := 3) (by simp [hR4])
    have k6 := hs.blk (b := b0 + 1 + 1) (cs := #[.bool false]) (e := 4) (by simp [hR3])
    have kn := hs.blk (b := bn) (cs := #[.int .i64 (pre.length : Nat)]) (e := 3) (by simp)
    have a0 := k8.cell 0
    have m0 := k5.cell 0
    have r0 := k6.cell 0
    have n0 := kn.cell 0
    have rf := k6.frozen 0
    have rl := k6.lt
    simp at a0 m0 r0 n0
    have K6 := Lib.hid k6
    have hkw := hs.nothing
    have HKW := Lib.hid hkw
    have hne : D1 ≠ b0 + 1 + 1 := fun h => k6.ne_obj (o := .deferred (some [])) (k := D1) (by rw [← hD1]; exact hD) rfl h.symm
    have hr0 := ((K6.out.set 0 (.bool true)).shut [D1] (by simp; exact fun h => hne h.symm)).cell 0
    simp [World.shut] at hr0
    have hfk : Keeps Nothing w (World.shut (Wz.setCell ⟨b0 + 1 + 1, 0, none⟩ (.bool true)) [D1]) := (HKW.out.set _ _ (.inr (hs.own_new (b := b0 + 1 + 1) (by simp only [own, List.map_cons, List.mem_cons]; exact .inr (.inr (List.mem_map.2 ⟨_, hR3, rfl⟩)))))).shut [D1] (by intro D h; simp only [List.mem_singleton] at h; subst h; exact .inr (hs.own_new (by simp [own])))
    have HNE := Lib.hid hne
    have HR0 := Lib.hid hr0
    have HFK := Lib.hid hfk
    have HD := Lib.hid (show Wz.heap[D1]? = some (.deferred (some [])) by rw [← hD1]; exact hD)
    clear hne hr0 hfk
    have hle : (pre.length : Int) ≤ A.ring.length := by omega
    have HLE := Lib.hid hle
    have HPM := Lib.hid hpm
    clear hle hj hD hDU hDS hq hs9 k8 k5 k6 kn hkw hs hD1 hpm hcl hci hwr hcnt hmost hm4 hRG hbnR hpre hlen hp1
    by_cases h1 : 1 < many
    · by_cases h2 : many < (A.ring.length : Int)
      · have hb : ((pre.length : Int) == many) = true := by have := HPM.out; simp; omega
        go_wp2
        refine bodyN_ret (v := .bool true) [D1] rfl (by intro D h; simp only [List.mem_singleton] at h; subst h; exact (heap_setCell_other Wz ⟨b0 + 1 + 1, 0, none⟩ D (.bool true) HNE.out).trans HD.out) (by simp) (by simp [results, Try.results32, go_sem, World.shut, HR0.out]) ⟨rfl, HFK.out⟩
      · have hb : ((pre.length : Int) == (A.ring.length : Int)) = true := by have := HPM.out; have := HLE.out; simp; omega
        go_wp2
        refine bodyN_ret (v := .bool true) [D1] rfl (by intro D h; simp only [List.mem_singleton] at h; subst h; exact (heap_setCell_other Wz ⟨b0 + 1 + 1, 0, none⟩ D (.bool true) HNE.out).trans HD.out) (by simp) (by simp [results, Try.results32, go_sem, World.shut, HR0.out]) ⟨rfl, HFK.out⟩
    · by_cases h2 : 1 < (A.ring.length : Int)
      · have hb : ((pre.length : Int) == 1) = true := by have := HPM.out; simp; omega
        go_wp2
        refine bodyN_ret (v := .bool true) [D1] rfl (by intro D h; simp only [List.mem_singleton] at h; subst h; exact (heap_setCell_other Wz ⟨b0 + 1 + 1, 0, none⟩ D (.bool true) HNE.out).trans HD.out) (by simp) (by simp [results, Try.results32, go_sem, World.shut, HR0.out]) ⟨rfl, HFK.out⟩
      · have hb : ((pre.length : Int) == (A.ring.length : Int)) = true := by have := HPM.out; have := HLE.out; simp; omega
        go_wp2
        refine bodyN_ret (v := .bool true) [D1] rfl (by intro D h; simp only [List.mem_singleton] at h; subst h; exact (heap_setCell_other Wz ⟨b0 + 1 + 1, 0, none⟩ D (.bool true) HNE.out).trans HD.out) (by simp) (by simp [results, Try.results32, go_sem, World.shut, HR0.out]) ⟨rfl, HFK.out⟩

end Go.Proofs.Ytejbeioiomjbpaa

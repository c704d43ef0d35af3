/-
  CellPlays: an arena, call by call, stands as the document's.
-/
import Derived.Test.YtejbeioiomjbpaaIs1
import Derived.Test.YtejbeioiomjbpaaAct5
import Derived.Test.YtejbeioiomjbpaaRef3
import Derived.Test.YtejbeioiomjbpaaStay3
import Derived.Test.YtejbeioiomjbpaaMixR
import Derived.Test.YtejbeioiomjbpaaCellWorks
import Derived.Deep.RegionHeld3
import Derived.Deep.DeepCutAuto
import Derived.Deep.CutBlock
import Derived.BigGuardPart
namespace Go.Proofs.Ytejbeioiomjbpaa
open Go.RowKit Go.Shelf
attribute [local go_sem] Oper.semAt_some

/-- A value that is an arena. -/
def AtVal : World → Value × Ar → List Nat → Prop := fun w x S => Mem w x.1 (some x.2) S
theorem atVal_framed : Framed AtVal := ⟨fun h hk => Mem.frame h hk, fun h => Mem.lt h⟩

theorem Pair.keep {w w' : World} {v u : Value} {A : Ar} {L : List Acc} {S : List Nat} (h : Pair w v u A L S) (hk : Keeps Nothing w w') : Pair w' v u A L S := ⟨h.mem.keep hk, h.ref.keep hk, h.apart⟩
theorem Pair.frame {w w' : World} {v u : Value} {A : Ar} {L : List Acc} {S : List Nat} (h : Pair w v u A L S) (hk : ∀ k, k ∈ S ∨ k ∈ refBlocks u → w'.heap[k]? = w.heap[k]?) : Pair w' v u A L S :=
  ⟨h.mem.frame fun k hk' => hk k (.inl hk'), h.ref.frame fun k hk' => hk k (.inr hk'), h.apart⟩

/-- Between two calls: the arena v, the document's in the box b7. -/
structure Mid (w : World) (b7 : Nat) (v u : Value) (A : Ar) (L : List Acc) (S : List Nat) (W : World) : Prop where
  pair : Pair W v u A L S
  keeps : Keeps Nothing w W
  news : ∀ k ∈ S, w.heap.size ≤ k
  box : ∃ c0 c1, u = .agg #[c0, .int .i64 A.most, c1] ∧ Blk W b7 #[c0, .int .i64 A.most, c1] 59
  apart : b7 ∉ S ∧ b7 ∉ refBlocks u
  new : w.heap.size ≤ b7

theorem Mid.keep {w W W' : World} {b7 : Nat} {v u : Value} {A : Ar} {L : List Acc} {S : List Nat} (h : Mid w b7 v u A L S W) (hk : Keeps Nothing W W') : Mid w b7 v u A L S W' := by
  obtain ⟨c0, c1, hu, hb⟩ := h.box
  exact ⟨h.pair.keep hk, h.keeps.then hk, h.news, ⟨c0, c1, hu, hk.blk hb id⟩, h.apart, h.new⟩

set_option maxRecDepth 100000 in
set_option maxHeartbeats 8000000 in
theorem CellPlays_walk (m : Int) (a : Option Addr) (n c : Nat) (V : Nat → Nat → Int) (w : World) (_wm : (Lit.int .i64 m).wf = true) (hrow : RowOf [.i64, .i64, .u64, .u64] w a n V) :
    Calls Try.prog 6 #[.int .i64 m, .slice a n c] w fun e w' => e = .returned (.bool true) ∧ Keeps Nothing w w' := by
  have hmx := hrow.1
  unfold maxLen at hmx
  have HROW := Lib.hid hrow
  have HR := Lib.hid hrow.2
  clear hrow
  by_cases hm : 1 ≤ m ∧ m ≤ 65536
  · have e0 : newOf m = (some ⟨[], m, [], 0⟩, 0) := by unfold newOf; rw [if_pos hm]
    have CN := New_any m w
    rw [e0] at CN
    have CR := fun W => refNew_ok m W
    rw [e0, if_pos hm] at CR
    have HM := Lib.hid hm
    clear e0 hm
    go_enter Try.func6, Try.ntmps6
    go_upto_region 4 with first
      | (go_at_call 29; refine (few_ok a n c V 60 w HROW.out).mono ?_; rintro e w' ⟨b, rfl, hb, rfl⟩; cases b)
      | (go_at_call 20; refine (works01_ok _).mono ?_; rintro e w' ⟨rfl, hk⟩)
      | (go_at_call 14; refine CN.mono ?_; clear CN; rintro e w1 ⟨v, S, rfl, hm, hS, hk, hv | ⟨-, q, rfl⟩⟩; exact absurd hv.1 (by simp))
    · exact bodyPost_ret (v := .bool true) (by simp [results, Try.results6, go_sem]) rfl ⟨rfl, hk⟩
    have h60 := (hb (by simp)).1
    clear hb
    go_upto_region 5 with (go_at_call 31; refine (CR _).mono ?_; clear CR; rintro e w2 ⟨u, rfl, hr, hk2, hbl⟩; obtain ⟨d0, d1, rfl, g1, g2⟩ := hr; obtain ⟨e0, f0, rfl, _, _⟩ := ownsRow_form g1; obtain ⟨e1, f1, rfl, _, _⟩ := ownsRow_form g2; simp only [List.length_nil] at hbl)
    obtain ⟨b7, hb7⟩ : ∃ b7, w2.heap.size = b7 := ⟨_, rfl⟩
    have hmid : Mid w b7 (.pointer (some ⟨q, 0, none⟩)) (.agg #[.slice e0 0 f0, .int .i64 m, .slice e1 0 f1]) ⟨[], m, [], 0⟩ [] S (w2.alloc (.cells #[.slice e0 0 f0, .int .i64 m, .slice e1 0 f1] 59)) := by
      refine ⟨⟨(hm.keep hk2).alloc _, RefAt.keep ⟨_, _, rfl, g1, g2⟩ ((Keeps.refl _ _).alloc _), fun k h => by rw [hbl] at h; simp at h⟩, (hk.then hk2).alloc _, hS, ⟨_, _, rfl, ?_⟩, ⟨fun h => ?_, by rw [hbl]; simp⟩, ?_⟩
      · rw [← hb7]; exact Blk.new _ _ _
      · have := hm.lt _ h; have := hk2.size; omega
      · have := hk.size; have := hk2.size; omega
    rw [hb7]
    obtain ⟨wa, hwa⟩ : ∃ wa, w2.alloc (.cells #[.slice e0 0 f0, .int .i64 m, .slice e1 0 f1] 59) = wa := ⟨_, rfl⟩
    rw [hwa] at hmid ⊢
    have hst : InStep ⟨[], m, [], 0⟩ [] 0 := ⟨rfl, rfl, by simp⟩
    clear hm hS hk hk2 g1 g2 hbl hb7 hwa
    go_wp2_with (go_at_call 28; refine (num01_ok _ _).mono ?_; rintro e w' ⟨rfl, rfl⟩)
    go_loopw [5, 9] (fun v i wr => ∃ (j : Nat) (A : Ar) (L : List Acc) (u : Value) (S : List Nat), i = .int .i64 j ∧ j ≤ n ∧ InStep A L j ∧ Mid w b7 v u A L S wr) (fun _ i _ => (n - intOf i).toNat)
    case atStart => exact ⟨0, _, _, _, _, rfl, by omega, hst, hmid⟩
    case round =>
      obtain ⟨j, A, L, u, S3, rfl, hj, hst3, hmid3⟩ := hrel
      clear hmid hst
      obtain ⟨c0, c1, hu, hbox⟩ := hmid3.box
      obtain ⟨_, _, hu2, g1, g2⟩ := hmid3.pair.ref
      rw [hu] at hu2
      simp only [Value.agg.injEq, Array.mk.injEq, List.cons.injEq, and_true, true_and] at hu2
      obtain ⟨rfl, rfl⟩ := hu2
      subst hu
      obtain ⟨e2, f2, rfl, _, _⟩ := ownsRow_form g1
      obtain ⟨e3, f3, rfl, _, _⟩ := ownsRow_form g2
      clear g1 g2
      have x0 := hbox.cell 0
      have x1 := hbox.cell 1
      have x2 := hbox.cell 2
      simp at x0 x1 x2
      have hb7l := hbox.lt
      have HB := Lib.hid hbox
      have HST := Lib.hid hst3
      have HMID := Lib.hid hmid3
      clear hbox hst3 hmid3
      by_cases hlt : j < n
      · obtain ⟨x, rfl, hcell⟩ := HR.out j hlt
        have hk0 := HMID.out.keeps
        have hu2 := (hcell 2 .u64 rfl).2
        have hu3 := (hcell 3 .u64 rfl).2
        have d0 := (hcell 0 .i64 rfl).1
        have d1 := (hcell 1 .i64 rfl).1
        have d2 := (hcell 2 .u64 rfl).1
        have d3 := (hcell 3 .u64 rfl).1
        obtain ⟨y0, hy0⟩ : ∃ y0, V j 0 = y0 := ⟨_, rfl⟩
        obtain ⟨y1, hy1⟩ : ∃ y1, V j 1 = y1 := ⟨_, rfl⟩
        obtain ⟨y2, hy2⟩ : ∃ y2, V j 2 = y2 := ⟨_, rfl⟩
        obtain ⟨y3, hy3⟩ : ∃ y3, V j 3 = y3 := ⟨_, rfl⟩
        rw [hy0] at d0
        rw [hy1] at d1
        rw [hy2] at d2 hu2
        rw [hy3] at d3 hu3
        simp only [List.length_cons, List.length_nil, Nat.reduceAdd, Nat.add_zero] at d0 d1 d2 d3
        rw [addr_in _ _ _ (by omega)] at d1 d2 d3
        have D0 := Lib.hid d0
        have D1 := Lib.hid d1
        have D2 := Lib.hid d2
        have D3 := Lib.hid d3
        replace d0 := hk0.cell d0
        replace d1 := hk0.cell d1
        replace d2 := hk0.cell d2
        replace d3 := hk0.cell d3
        have hb2 : 0 ≤ y2 ∧ y2 < 18446744073709551616 := by
          simp [Lit.wf, IntKind.min, IntKind.max, IntKind.bits, IntKind.signed] at hu2
          omega
        have hb3 : 0 ≤ y3 ∧ y3 < 18446744073709551616 := by
          simp [Lit.wf, IntKind.min, IntKind.max, IntKind.bits, IntKind.signed] at hu3
          omega
        have HB2 := Lib.hid hb2
        have HB3 := Lib.hid hb3
        clear hy0 hy1 hy2 hy3 hcell hk0 hu2 hu3 hb2 hb3
        go_upto_region 10 with fail
        have hjn : ¬ n ≤ j := by omega
        obtain ⟨A', hA'⟩ : ∃ A', (actOf A y0 y1 y2 y3).1 = A' := ⟨_, rfl⟩
        obtain ⟨L', hL'⟩ : ∃ L', L ++ (actOf A y0 y1 y2 y3).2 = L' := ⟨_, rfl⟩
        have hst4 : InStep A' L' (j + 1) := by rw [← hA', ← hL']; exact act_step A L j y0 y1 y2 y3 HST.out (by omega)
        have CA := fun W h => act01_ok u5 (.agg #[.slice e2 A.cells.length f2, .int .i64 A.most, .slice e3 L.length f3]) A L S3 y0 y1 y2 y3 W h (by have := HST.out.many; have := HST.out.most; omega) (by have := HST.out.most; omega) HB2.out HB3.out
        rw [hA', hL'] at CA
        have HST4 := Lib.hid hst4
        clear hA' hL' hst4
        have hxl := World.block_lt_of_cell? wr _ d0
        have far1 : ∀ (w : World) (v : Value) (o o' : Nat), (w.setCell ⟨wr.heap.size, o, none⟩ v).cell? ⟨b7, o', none⟩ = w.cell? ⟨b7, o', none⟩ := fun w v o o' => cell_set_far _ _ _ _ (by dsimp only; omega)
        have far2 : ∀ (w : World) (v : Value) (o : Nat), (w.setCell ⟨wr.heap.size, o, none⟩ v).cell? (x.add (j * 4)) = w.cell? (x.add (j * 4)) := fun w v o => cell_set_far _ _ _ _ (by dsimp only; omega)
        have far3 : ∀ (w : World) (v : Value) (o o' : Nat), (w.setCell ⟨wr.heap.size, o, none⟩ v).cell? ⟨(x.add (j * 4)).block, o', none⟩ = w.cell? ⟨(x.add (j * 4)).block, o', none⟩ := fun w v o o' => cell_set_far _ _ _ _ (by dsimp only; omega)
        have HXL := Lib.hid hxl
        clear hxl
        go_region_held_law (fun w' => (w'.cell? ⟨b7, 0, none⟩ = some (.slice e2 A.cells.length f2) ∧ w'.cell? ⟨b7, 1, none⟩ = some (.int .i64 A.most) ∧ w'.cell? ⟨b7, 2, none⟩ = some (.slice e3 L.length f3)) ∧
            w'.cell? (x.add (j * 4)) = some (.int .i64 y0) ∧ w'.cell? ⟨(x.add (j * 4)).block, (x.add (j * 4)).off + 1, none⟩ = some (.int .i64 y1) ∧ w'.cell? ⟨(x.add (j * 4)).block, (x.add (j * 4)).off + 2, none⟩ = some (.int .u64 y2) ∧ w'.cell? ⟨(x.add (j * 4)).block, (x.add (j * 4)).off + 3, none⟩ = some (.int .u64 y3))
          (first | go_keep | exact ⟨⟨by assumption, by assumption, by assumption⟩, by assumption, by assumption, by assumption, by assumption⟩ | (simp only [far1, far2, far3]; exact ⟨⟨by assumption, by assumption, by assumption⟩, by assumption, by assumption, by assumption, by assumption⟩))
          (first | ((try go_simp); go_at_call 30; refine (CA _ (HMID.out.pair.keep ((Keeps.refl _ wr).drew))).mono ?_; rintro e w3 ⟨v4, u4, S4, rfl, hp4, ht4, hbl4⟩; obtain ⟨k0, k1, rfl, g1, g2⟩ := hp4.ref; obtain ⟨e4, f4, rfl, _, _⟩ := ownsRow_form g1; obtain ⟨e5, f5, rfl, _, _⟩ := ownsRow_form g2; have hk3 : Keeps Nothing w w3 := (HMID.out.keeps.then ((Keeps.refl _ wr).drew)).trans ht4.1 (fun i hi => .inr (HMID.out.news i hi)); have hb3 : Blk w3 b7 #[.slice e2 A.cells.length f2, .int .i64 A.most, .slice e3 L.length f3] 59 := ht4.1.blk (Keeps.blk (S := Nothing) ((Keeps.refl _ wr).drew) HB.out id) HMID.out.apart.1; have z0 := hb3.cell 0; have z1 := hb3.cell 1; have z2 := hb3.cell 2; simp at z0 z1 z2; have l3 := hb3.lt; have p0 := hk3.cell D0.out; have p1 := hk3.cell D1.out; have p2 := hk3.cell D2.out; have p3 := hk3.cell D3.out; have HB3' := Lib.hid hb3; have HK3 := Lib.hid hk3; have HP4 := Lib.hid hp4; have HT4 := Lib.hid ht4; have HBL4 := Lib.hid hbl4;  clear hb3 hk3 hp4 ht4 hbl4 g1 g2) | ((try go_simp); go_at_call 30; refine (CA _ (HMID.out.pair.keep (((Keeps.refl _ wr).alloc (.cells #[.slice none 0 0, .int .i64 0, .slice none 0 0] 59)).drew))).mono ?_; rintro e w3 ⟨v4, u4, S4, rfl, hp4, ht4, hbl4⟩; obtain ⟨k0, k1, rfl, g1, g2⟩ := hp4.ref; obtain ⟨e4, f4, rfl, _, _⟩ := ownsRow_form g1; obtain ⟨e5, f5, rfl, _, _⟩ := ownsRow_form g2; have hk3 : Keeps Nothing w w3 := (HMID.out.keeps.then (((Keeps.refl _ wr).alloc (.cells #[.slice none 0 0, .int .i64 0, .slice none 0 0] 59)).drew)).trans ht4.1 (fun i hi => .inr (HMID.out.news i hi)); have hb3 : Blk w3 b7 #[.slice e2 A.cells.length f2, .int .i64 A.most, .slice e3 L.length f3] 59 := ht4.1.blk (Keeps.blk (S := Nothing) (((Keeps.refl _ wr).alloc (.cells #[.slice none 0 0, .int .i64 0, .slice none 0 0] 59)).drew) HB.out id) HMID.out.apart.1; have z0 := hb3.cell 0; have z1 := hb3.cell 1; have z2 := hb3.cell 2; simp at z0 z1 z2; have l3 := hb3.lt; have p0 := hk3.cell D0.out; have p1 := hk3.cell D1.out; have p2 := hk3.cell D2.out; have p3 := hk3.cell D3.out; have HB3' := Lib.hid hb3; have HK3 := Lib.hid hk3; have HP4 := Lib.hid hp4; have HT4 := Lib.hid ht4; have HBL4 := Lib.hid hbl4; have hb11 : Blk w3 wr.heap.size #[.slice none 0 0, .int .i64 0, .slice none 0 0] 59 := ht4.1.blk (Keeps.blk (S := Nothing) (Keeps.refl _ _).drew (Blk.new wr _ _) id) (fun h => by have := HMID.out.pair.mem.lt _ h; omega); have q0 := hb11.cell 0; have q1 := hb11.cell 1; have q2 := hb11.cell 2; simp at q0 q1 q2; have q3 := hb11.frozen 0; have q4 := hb11.frozen 1; have q5 := hb11.frozen 2; have l11 := hb11.lt; have HB11 := Lib.hid hb11; clear hb11; clear hb3 hk3 hp4 ht4 hbl4 g1 g2))
        ·
          have hS4 : ∀ k ∈ S4, k ∈ S3 ∨ wr.heap.size ≤ k := fun k hk => (HT4.out.2 k hk).imp id fun h => by simp at h; omega
          have hn4 : ∀ k ∈ S4, w.heap.size ≤ k := fun k hk => by
            rcases hS4 k hk with h | h
            · exact HMID.out.news k h
            · have := HMID.out.keeps.size; omega
          have h74 : b7 ∉ S4 ∧ b7 ∉ refBlocks (.agg #[.slice e4 A'.cells.length f4, .int .i64 A'.most, .slice e5 L'.length f5]) := by
            refine ⟨fun h => ?_, fun h => ?_⟩
            · rcases hS4 b7 h with h | h
              · exact HMID.out.apart.1 h
              · omega
            · rcases HBL4.out b7 h with h | h
              · exact HMID.out.apart.2 h
              · simp at h; omega
          have hp5 := HP4.out.keep ((Keeps.refl Nothing w3).alloc (.cells #[.slice e4 A'.cells.length f4, .int .i64 A'.most, .slice e5 L'.length f5] 59))
          have hk5 := HK3.out.alloc (.cells #[.slice e4 A'.cells.length f4, .int .i64 A'.most, .slice e5 L'.length f5] 59)
          have hb5 := HB3'.out.alloc (.cells #[.slice e4 A'.cells.length f4, .int .i64 A'.most, .slice e5 L'.length f5] 59)
          have hb11 := Blk.new w3 #[.slice e4 A'.cells.length f4, .int .i64 A'.most, .slice e5 L'.length f5] 59
          obtain ⟨b11, hb11e⟩ : ∃ b11, w3.heap.size = b11 := ⟨_, rfl⟩
          rw [hb11e] at hb11 ⊢
          have hne : b7 ≠ b11 := by omega
          obtain ⟨W5, hW5⟩ : ∃ W5, w3.alloc (.cells #[.slice e4 A'.cells.length f4, .int .i64 A'.most, .slice e5 L'.length f5] 59) = W5 := ⟨_, rfl⟩
          rw [hW5] at hp5 hk5 hb5 hb11 ⊢
          have r0 := hb11.cell 0
          have r1 := hb11.cell 1
          have r2 := hb11.cell 2
          have s0 := hb5.cell 0
          have s1 := hb5.cell 1
          have s2 := hb5.cell 2
          simp at r0 r1 r2 s0 s1 s2
          have t0 := hb5.frozen 0
          have t1 := hb5.frozen 1
          have t2 := hb5.frozen 2
          have l5 := hb5.lt
          have hb6 := ((hb5.set 0 (.slice e4 A'.cells.length f4)).set 1 (.int .i64 A'.most)).set 2 (.slice e5 L'.length f5)
          have hkf6 := ((((Keeps.refl (fun k => k = b7) W5).set ⟨b7, 0, none⟩ (.slice e4 A'.cells.length f4) (.inl rfl)).set ⟨b7, 1, none⟩ (.int .i64 A'.most) (.inl rfl)).set ⟨b7, 2, none⟩ (.slice e5 L'.length f5) (.inl rfl)).drew
          have hmid6 : Mid w b7 v4 (.agg #[.slice e4 A'.cells.length f4, .int .i64 A'.most, .slice e5 L'.length f5]) A' L' S4 (((W5.setCell ⟨b7, 0, none⟩ (.slice e4 A'.cells.length f4)).setCell ⟨b7, 1, none⟩ (.int .i64 A'.most)).setCell ⟨b7, 2, none⟩ (.slice e5 L'.length f5)).drew := by
            refine ⟨hp5.frame fun k hk => ?_, hk5.trans hkf6 (fun i hi => .inr (by rw [hi]; exact HMID.out.new)), hn4, ⟨_, _, rfl, ?_⟩, h74, HMID.out.new⟩
            · rcases hk with hk | hk
              · exact hkf6.block k (hp5.mem.lt k hk) (fun e => h74.1 (e ▸ hk))
              · exact hkf6.block k (hp5.ref.lt k hk) (fun e => h74.2 (e ▸ hk))
            · exact hb6.drew
          have HMID6 := Lib.hid hmid6
          have hst6 : InStep A' L' 1024 := ⟨HST4.out.ring, HST4.out.many, by have := HST4.out.most; omega⟩
          have HST6 := Lib.hid hst6
          clear hmid6 hst6 hkf6 hb5 hb11 hp5 hk5 hW5 HP4 HT4 HBL4 HK3 HB3' HB HST HB2 HB3 D0 D1 D2 D3 d0 d1 d2 d3 z0 z1 z2 p0 p1 p2 p3 far1 far2 far3 hn4 hS4 h74 x0 x1 x2
          go_upto_region 11 with fail
          refine wp_mixp (by kernel_rfl) (by kernel_rfl) ?_
          go_wp2
          refine ⟨by kernel_rfl, ?_⟩
          have v0 := hb6.cell 0
          have v1 := hb6.cell 1
          have v2 := hb6.cell 2
          simp at v0 v1 v2
          obtain ⟨W6, hW6⟩ : ∃ W6, (((W5.setCell ⟨b7, 0, none⟩ (.slice e4 A'.cells.length f4)).setCell ⟨b7, 1, none⟩ (.int .i64 A'.most)).setCell ⟨b7, 2, none⟩ (.slice e5 L'.length f5)).drew = W6 := ⟨_, rfl⟩
          rw [hW6] at HMID6 ⊢
          have v0' : W6.cell? ⟨b7, 0, none⟩ = some (.slice e4 A'.cells.length f4) := by rw [← hW6]; exact v0
          have v1' : W6.cell? ⟨b7, 1, none⟩ = some (.int .i64 A'.most) := by rw [← hW6]; exact v1
          have v2' : W6.cell? ⟨b7, 2, none⟩ = some (.slice e5 L'.length f5) := by rw [← hW6]; exact v2
          clear hb6 hW6 v0 v1 v2 r0 r1 r2 s0 s1 s2 t0 t1 t2
          go_wp2_with (go_at_call 32; refine (is01_ok v4 _ A' L' S4 _ _ HMID6.out.pair HST6.out).mono ?_; rintro e w7 ⟨rfl, hk7⟩; have HK7 := Lib.hid hk7; clear hk7)
          go_roundw
          case rel => exact ⟨j + 1, A', L', _, S4, by simp, by omega, HST4.out, HMID6.out.keep HK7.out⟩
          case measure => simp [intOf]; omega
        ·
          have hS4 : ∀ k ∈ S4, k ∈ S3 ∨ wr.heap.size ≤ k := fun k hk => (HT4.out.2 k hk).imp id fun h => by simp at h; omega
          have hn4 : ∀ k ∈ S4, w.heap.size ≤ k := fun k hk => by
            rcases hS4 k hk with h | h
            · exact HMID.out.news k h
            · have := HMID.out.keeps.size; omega
          have h74 : b7 ∉ S4 ∧ b7 ∉ refBlocks (.agg #[.slice e4 A'.cells.length f4, .int .i64 A'.most, .slice e5 L'.length f5]) := by
            refine ⟨fun h => ?_, fun h => ?_⟩
            · rcases hS4 b7 h with h | h
              · exact HMID.out.apart.1 h
              · omega
            · rcases HBL4.out b7 h with h | h
              · exact HMID.out.apart.2 h
              · simp at h; omega
          have hkf := ((((Keeps.refl (fun k => k = wr.heap.size) w3).set ⟨wr.heap.size, 0, none⟩ (.slice e4 A'.cells.length f4) (.inl rfl)).set ⟨wr.heap.size, 1, none⟩ (.int .i64 A'.most) (.inl rfl)).set ⟨wr.heap.size, 2, none⟩ (.slice e5 L'.length f5) (.inl rfl))
          have hnS : wr.heap.size ∉ S4 := fun h => by
            rcases HT4.out.2 _ h with h | h
            · have := HMID.out.pair.mem.lt _ h; omega
            · simp at h; omega
          have hnR : wr.heap.size ∉ refBlocks (.agg #[.slice e4 A'.cells.length f4, .int .i64 A'.most, .slice e5 L'.length f5]) := fun h => by
            rcases HBL4.out _ h with h | h
            · have := HMID.out.pair.ref.lt _ h; omega
            · simp at h; omega
          have hp5 := HP4.out.frame (w' := ((w3.setCell ⟨wr.heap.size, 0, none⟩ (.slice e4 A'.cells.length f4)).setCell ⟨wr.heap.size, 1, none⟩ (.int .i64 A'.most)).setCell ⟨wr.heap.size, 2, none⟩ (.slice e5 L'.length f5)) fun k hk => by
            rcases hk with hk | hk
            · exact hkf.block k (HP4.out.mem.lt k hk) (fun e => hnS (e ▸ hk))
            · exact hkf.block k (HP4.out.ref.lt k hk) (fun e => hnR (e ▸ hk))
          have hk5 := HK3.out.trans hkf (fun i hi => .inr (by rw [hi]; exact HMID.out.keeps.size))
          have hne : b7 ≠ wr.heap.size := by omega
          have hb5 := ((HB3'.out.other (a := ⟨wr.heap.size, 0, none⟩) hne (.slice e4 A'.cells.length f4)).other (a := ⟨wr.heap.size, 1, none⟩) hne (.int .i64 A'.most)).other (a := ⟨wr.heap.size, 2, none⟩) hne (.slice e5 L'.length f5)
          have hb11 : Blk (((w3.setCell ⟨wr.heap.size, 0, none⟩ (.slice e4 A'.cells.length f4)).setCell ⟨wr.heap.size, 1, none⟩ (.int .i64 A'.most)).setCell ⟨wr.heap.size, 2, none⟩ (.slice e5 L'.length f5)) wr.heap.size #[.slice e4 A'.cells.length f4, .int .i64 A'.most, .slice e5 L'.length f5] 59 := ((HB11.out.set 0 (.slice e4 A'.cells.length f4)).set 1 (.int .i64 A'.most)).set 2 (.slice e5 L'.length f5)
          clear hkf hnS hnR
          clear q0 q1 q2 q3 q4 q5 l11 HB11
          obtain ⟨W5, hW5⟩ : ∃ W5, (((w3.setCell ⟨wr.heap.size, 0, none⟩ (.slice e4 A'.cells.length f4)).setCell ⟨wr.heap.size, 1, none⟩ (.int .i64 A'.most)).setCell ⟨wr.heap.size, 2, none⟩ (.slice e5 L'.length f5)) = W5 := ⟨_, rfl⟩
          rw [hW5] at hp5 hk5 hb5 hb11 ⊢
          have r0 := hb11.cell 0
          have r1 := hb11.cell 1
          have r2 := hb11.cell 2
          have s0 := hb5.cell 0
          have s1 := hb5.cell 1
          have s2 := hb5.cell 2
          simp at r0 r1 r2 s0 s1 s2
          have t0 := hb5.frozen 0
          have t1 := hb5.frozen 1
          have t2 := hb5.frozen 2
          have l5 := hb5.lt
          have hb6 := ((hb5.set 0 (.slice e4 A'.cells.length f4)).set 1 (.int .i64 A'.most)).set 2 (.slice e5 L'.length f5)
          have hkf6 := ((((Keeps.refl (fun k => k = b7) W5).set ⟨b7, 0, none⟩ (.slice e4 A'.cells.length f4) (.inl rfl)).set ⟨b7, 1, none⟩ (.int .i64 A'.most) (.inl rfl)).set ⟨b7, 2, none⟩ (.slice e5 L'.length f5) (.inl rfl)).drew
          have hmid6 : Mid w b7 v4 (.agg #[.slice e4 A'.cells.length f4, .int .i64 A'.most, .slice e5 L'.length f5]) A' L' S4 (((W5.setCell ⟨b7, 0, none⟩ (.slice e4 A'.cells.length f4)).setCell ⟨b7, 1, none⟩ (.int .i64 A'.most)).setCell ⟨b7, 2, none⟩ (.slice e5 L'.length f5)).drew := by
            refine ⟨hp5.frame fun k hk => ?_, hk5.trans hkf6 (fun i hi => .inr (by rw [hi]; exact HMID.out.new)), hn4, ⟨_, _, rfl, ?_⟩, h74, HMID.out.new⟩
            · rcases hk with hk | hk
              · exact hkf6.block k (hp5.mem.lt k hk) (fun e => h74.1 (e ▸ hk))
              · exact hkf6.block k (hp5.ref.lt k hk) (fun e => h74.2 (e ▸ hk))
            · exact hb6.drew
          have HMID6 := Lib.hid hmid6
          have hst6 : InStep A' L' 1024 := ⟨HST4.out.ring, HST4.out.many, by have := HST4.out.most; omega⟩
          have HST6 := Lib.hid hst6
          clear hmid6 hst6 hkf6 hb5 hb11 hp5 hk5 hW5 HP4 HT4 HBL4 HK3 HB3' HB HST HB2 HB3 D0 D1 D2 D3 d0 d1 d2 d3 z0 z1 z2 p0 p1 p2 p3 far1 far2 far3 hn4 hS4 h74 x0 x1 x2
          go_upto_region 11 with fail
          refine wp_mixp (by kernel_rfl) (by kernel_rfl) ?_
          go_wp2
          refine ⟨by kernel_rfl, ?_⟩
          have v0 := hb6.cell 0
          have v1 := hb6.cell 1
          have v2 := hb6.cell 2
          simp at v0 v1 v2
          obtain ⟨W6, hW6⟩ : ∃ W6, (((W5.setCell ⟨b7, 0, none⟩ (.slice e4 A'.cells.length f4)).setCell ⟨b7, 1, none⟩ (.int .i64 A'.most)).setCell ⟨b7, 2, none⟩ (.slice e5 L'.length f5)).drew = W6 := ⟨_, rfl⟩
          rw [hW6] at HMID6 ⊢
          have v0' : W6.cell? ⟨b7, 0, none⟩ = some (.slice e4 A'.cells.length f4) := by rw [← hW6]; exact v0
          have v1' : W6.cell? ⟨b7, 1, none⟩ = some (.int .i64 A'.most) := by rw [← hW6]; exact v1
          have v2' : W6.cell? ⟨b7, 2, none⟩ = some (.slice e5 L'.length f5) := by rw [← hW6]; exact v2
          clear hb6 hW6 v0 v1 v2 r0 r1 r2 s0 s1 s2 t0 t1 t2
          go_wp2_with (go_at_call 32; refine (is01_ok v4 _ A' L' S4 _ _ HMID6.out.pair HST6.out).mono ?_; rintro e w7 ⟨rfl, hk7⟩; have HK7 := Lib.hid hk7; clear hk7)
          go_roundw
          case rel => exact ⟨j + 1, A', L', _, S4, by simp, by omega, HST4.out, HMID6.out.keep HK7.out⟩
          case measure => simp [intOf]; omega
      · have hjn : j = n := by omega
        subst hjn
        have hst6 : InStep A L 1024 := ⟨HST.out.ring, HST.out.many, by have := HST.out.most; omega⟩
        have HST6 := Lib.hid hst6
        clear hst6
        go_wp2_with first
          | (go_at_call 32; refine (is01_ok u5 _ A L S3 _ _ HMID.out.pair HST6.out).mono ?_; rintro e w7 ⟨rfl, hk7⟩; have HK7 := Lib.hid hk7; clear hk7)
          | (go_at_call 20; refine (works01_ok _).mono ?_; rintro e w8 ⟨rfl, hk8⟩; have HK8 := Lib.hid hk8; clear hk8)
        exact bodyPost_ret (v := .bool true) (by simp [results, Try.results6, go_sem]) rfl ⟨rfl, (HMID.out.keeps.then HK7.out).then HK8.out⟩
  · have e0 : newOf m = (none, 2) := by unfold newOf; rw [if_neg hm]
    have CN := New_any m w
    rw [e0] at CN
    have CR := fun W => refNew_ok m W
    rw [e0, if_neg hm] at CR
    clear e0 hm
    go_enter Try.func6, Try.ntmps6
    go_upto_region 4 with first
      | (go_at_call 29; refine (few_ok a n c V 60 w HROW.out).mono ?_; rintro e w' ⟨b, rfl, hb, rfl⟩; cases b)
      | (go_at_call 20; refine (works01_ok _).mono ?_; rintro e w' ⟨rfl, hk⟩)
      | (go_at_call 14; refine CN.mono ?_; clear CN; rintro e w1 ⟨v, S, rfl, hm, hS, hk, ⟨-, rfl⟩ | ⟨hne, -⟩⟩; rotate_left; exact absurd rfl hne)
    · exact bodyPost_ret (v := .bool true) (by simp [results, Try.results6, go_sem]) rfl ⟨rfl, hk⟩
    clear hb
    go_upto_region 5 with (go_at_call 31; refine (CR _).mono ?_; clear CR; rintro e w2 ⟨u, rfl, hr, hk2, hbl⟩; obtain ⟨d0, d1, rfl, g1, g2⟩ := hr; obtain ⟨e0, f0, rfl, _, _⟩ := ownsRow_form g1; obtain ⟨e1, f1, rfl, _, _⟩ := ownsRow_form g2; simp only [List.length_nil] at hbl)
    have hkw : Keeps Nothing w (w2.alloc (.cells #[.slice e0 0 f0, .int .i64 0, .slice e1 0 f1] 59)) := (hk.then hk2).alloc _
    have HKW := Lib.hid hkw
    clear hkw hk hk2 g1 g2 hm hS hbl
    go_wp2_with first
      | (go_at_call 28; refine (num01_ok _ _).mono ?_; rintro e w' ⟨rfl, rfl⟩)
    go_loopw [9] (fun i wr => i = .int .i64 0 ∧ wr = (w2.alloc (.cells #[.slice e0 0 f0, .int .i64 0, .slice e1 0 f1] 59))) (fun _ _ => 0)
    case atStart => exact ⟨rfl, rfl⟩
    case round =>
      obtain ⟨rfl, rfl⟩ := hrel
      by_cases h0 : 0 < n
      · go_wp2_with (go_at_call 20; refine (works01_ok _).mono ?_; rintro e w8 ⟨rfl, hk8⟩; have HK8 := Lib.hid hk8; clear hk8)
        exact bodyPost_ret (v := .bool true) (by simp [results, Try.results6, go_sem]) rfl ⟨rfl, HKW.out.then HK8.out⟩
      · go_wp2_with (go_at_call 20; refine (works01_ok _).mono ?_; rintro e w8 ⟨rfl, hk8⟩; have HK8 := Lib.hid hk8; clear hk8)
        exact bodyPost_ret (v := .bool true) (by simp [results, Try.results6, go_sem]) rfl ⟨rfl, HKW.out.then HK8.out⟩

end Go.Proofs.Ytejbeioiomjbpaa

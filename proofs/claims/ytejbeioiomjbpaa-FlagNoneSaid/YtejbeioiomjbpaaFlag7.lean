/-
  Layer 12: States.
-/
import Derived.Test.YtejbeioiomjbpaaFlag6
import Derived.Test.YtejbeioiomjbpaaStay
import Derived.Test.YtejbeioiomjbpaaLog1
import Derived.Test.YtejbeioiomjbpaaAppendZ
import Derived.Deep.RegionHeld3
namespace Go.Proofs.Ytejbeioiomjbpaa
open Go.RowKit Go.Shelf
attribute [local go_sem] Oper.semAt_some

theorem infoFlagState : (Try.prog.info? 77).map (fun i => (i.zero, i.size, i.bytes)) = some (some (.int .i64 0), 1, 8) := by kernel_rfl

/-- A flag as acts leave it, and the states that were told: the run r, the box of its pointer r + 1, the list's r + 2. -/
structure Sts (W : World) (r : Nat) (s : Int) (c : Bool) (L : List Int) (v : Value) : Prop where
  ptr : Blk W (r + 1) #[.pointer (some ⟨r, 0, none⟩)] 140
  list : Blk W (r + 2) #[v] 139
  row : W.ownsRow (r + 3) 77 1 v L.length (L.map (Value.int .i64))
  run : Blk W r #[.int .i64 s, .bool c] 142

theorem ownsRow_from {w : World} {base : Nat} {e : TypeId} {size : Nat} {v : Value} {n : Nat} {xs : List Value} (h : w.ownsRow base e size v n xs) {k : Nat} (hk : v.ownBlock = some k) : base ≤ k := by
  rcases h.2 with ⟨rfl, rfl⟩ | ⟨g, cap, cur, rfl, hb, _⟩
  · simp [Value.ownBlock] at hk
  · simp [Value.ownBlock] at hk; subst hk; exact hb

theorem ownsRow_one' (W : World) (e : TypeId) (sz : Nat) (cs : Array Value) (h : cs.size = sz) : (W.alloc (.cells cs e)).ownsRow 0 e sz (.slice (some ⟨W.heap.size, 0, none⟩) 1 1) 1 cs.toList :=
  ⟨by rw [Array.length_toList, h, Nat.one_mul], .inr ⟨_, 1, cs, rfl, Nat.zero_le _, heap_alloc_new W _, Nat.le_refl _, by unfold maxLen; omega, by rw [h, Nat.one_mul], List.take_of_length_le (by rw [Array.length_toList, h, Nat.one_mul]; exact Nat.le_refl _)⟩⟩

theorem Sts.keep {W W' : World} {r : Nat} {s : Int} {c : Bool} {L : List Int} {v : Value} (h : Sts W r s c L v) (hk : Keeps Nothing W W') : Sts W' r s c L v :=
  ⟨hk.blk h.ptr id, hk.blk h.list id, ownsRow_kept h.row fun k hk' => hk.block k (by obtain ⟨cs, hcs⟩ := ownsRow_blk h.row hk'; exact hcs.lt) id, hk.blk h.run id⟩

set_option maxRecDepth 100000 in
set_option maxHeartbeats 1000000 in
theorem States1_ok (r : Nat) (s : Int) (c : Bool) (L : List Int) (v : Value) (x : FAct) (w : World) (h : Sts w r s c L v) (hL : L.length ≤ 65536) :
    Calls Try.prog 100 #[.agg #[.int .i64 x.step, .bool x.owner, .int .i64 x.was], .pointer (some ⟨r + 1, 0, none⟩), .pointer (some ⟨r + 2, 0, none⟩)] w fun e w' =>
      e = .returned (.bool (stepF s c x).isSome) ∧ (∃ v', Sts w' r ((stepF s c x).getD (s, c)).1 ((stepF s c x).getD (s, c)).2 (L ++ ((stepF s c x).map Prod.fst).toList) v') ∧ Keeps (fun k => r ≤ k) w w' := by
  have h1 := h.keep ((Keeps.refl Nothing w).alloc (.cells #[.int .i64 x.step, .bool x.owner, .int .i64 x.was] 84))
  have C := does_ok r s c x (w.alloc (.cells #[.int .i64 x.step, .bool x.owner, .int .i64 x.was] 84)) h1.run
  have hrs : r + 2 < w.heap.size := h.list.lt
  obtain ⟨i0, hi, hz0, hz1, hz2⟩ := info_parts infoFlagState
  have p0 := h1.ptr.cell 0
  simp at p0
  have H1 := Lib.hid h1
  clear h h1
  go_enter Try.func100, Try.ntmps100
  cases hst : stepF s c x with
  | none =>
    rw [hst] at C
    simp only [Option.isSome_none, Option.getD_none] at C
    go_wp2_with (go_at_call 78; refine C.mono ?_; clear C; rintro e w3 ⟨rfl, hb3, hk3⟩; have HB3 := Lib.hid hb3; have HK3 := Lib.hid hk3; clear hb3 hk3)
    go_ret
    have hk : Keeps (fun k => r ≤ k) w w3 := (((Keeps.refl (fun k => r ≤ k) w).alloc _)).trans HK3.out (fun i hi => .inl (by omega))
    refine ⟨rfl, ⟨v, ⟨HK3.out.blk H1.out.ptr (by omega), HK3.out.blk H1.out.list (by omega), ?_, HB3.out⟩⟩, hk⟩
    simpa using ownsRow_kept H1.out.row fun k hk' => HK3.out.block k (by obtain ⟨cs, hcs⟩ := ownsRow_blk H1.out.row hk'; exact hcs.lt) (by have := ownsRow_from H1.out.row hk'; omega)
  | some p =>
    rw [hst] at C
    simp only [Option.isSome_some, Option.getD_some] at C
    go_upto_region 3 with (go_at_call 78; refine C.mono ?_; clear C; rintro e w3 ⟨rfl, hb3, hk3⟩; have HB3 := Lib.hid hb3; have HK3 := Lib.hid hk3; clear hb3 hk3)
    have hp3 := HK3.out.blk H1.out.ptr (by omega)
    have hl3 := HK3.out.blk H1.out.list (by omega)
    have hr3 := ownsRow_kept H1.out.row fun k hk' => HK3.out.block k (by obtain ⟨cs, hcs⟩ := ownsRow_blk H1.out.row hk'; exact hcs.lt) (by have := ownsRow_from H1.out.row hk'; omega)
    have hk03 : Keeps (fun k => r ≤ k) w w3 := (((Keeps.refl (fun k => r ≤ k) w).alloc _)).trans HK3.out (fun i hi => .inl (by omega))
    obtain ⟨a, cap, rfl, _, _⟩ := ownsRow_form hr3
    have q0 := hp3.cell 0
    have q1 := hl3.cell 0
    have q2 := HB3.out.cell 0
    simp at q0 q1 q2
    have hrs3 : r + 3 ≤ w3.heap.size := by have := hl3.lt; omega
    clear p0
    refine wp_mixp (by kernel_rfl) (by kernel_rfl) ?_
    have HL3 := Lib.hid hl3
    have HP3 := Lib.hid hp3
    have HR3 := Lib.hid hr3
    have HK03 := Lib.hid hk03
    clear hl3 hp3 hr3 hk03
    go_wp2_with (at_builtin; refine wpList_append_row _ rfl (.tmp 10) (.tmp 15) 139 rfl (r + 3) 0 77 i0 (.int .i64 0) 1 8 Try.underlying139 hi hz0 hz1 hz2 rfl (by decide) _ _ _ rfl (ownsRow_kept (w' := (w3.alloc (.cells #[.int .i64 p.1] 77)).drew) (HR3.out.alloc _) fun _ _ => rfl) _ _ _ rfl (ownsRow_kept (w' := (w3.alloc (.cells #[.int .i64 p.1] 77)).drew) (ownsRow_one' w3 _ 1 #[.int .i64 p.1] rfl) fun _ _ => rfl) (by simp [Value.oneCell']) (by unfold maxLen; omega) (by omega) (by simp; omega) ?_; intro v1 W4 hown1 hgrow1 hat1; have hk4 : Keeps (fun k => r + 3 ≤ k) w3 W4 := ((Keeps.refl _ _).alloc _).drew.grown hgrow1 (fun k hk => .inl (ownsRow_from HR3.out hk)); obtain ⟨a4, c4, rfl, _, _⟩ := ownsRow_form hown1; have hl4 := hk4.blk HL3.out (by omega); have m0 := hl4.cell 0; have m1 := hl4.frozen 0; have m2 := hl4.lt; simp at m0; have HL4 := Lib.hid hl4; have HK4 := Lib.hid hk4; have HO4 := Lib.hid hown1; clear hl4 hk4 hown1 hgrow1 hat1)
    refine ⟨by kernel_rfl, ?_⟩
    go_wp2
    go_ret
    have hfar : ∀ k, k ≠ r + 2 → ((W4.setCell ⟨r + 2, 0, none⟩ (.slice a4 (L.length + 1) c4))).heap[k]? = W4.heap[k]? := fun k hk => heap_setCell_other W4 ⟨r + 2, 0, none⟩ k _ hk
    refine ⟨rfl, ⟨.slice a4 (L.length + 1) c4, ⟨?_, ?_, ?_, ?_⟩⟩, (HK03.out.trans HK4.out (fun i hi => .inl (Nat.le_trans (Nat.le_add_right r 3) hi))).set ⟨r + 2, 0, none⟩ (.slice a4 (L.length + 1) c4) (.inl (Nat.le_add_right r 2))⟩
    · exact (HK4.out.blk HP3.out (by omega)).other (by simp) _
    · exact HL4.out.set 0 _
    · have h := ownsRow_kept HO4.out fun k hk => hfar k (by have := ownsRow_from HO4.out hk; omega)
      simpa using h
    · exact (HK4.out.blk HB3.out (by omega)).other (by simp) _

set_option maxRecDepth 100000 in
set_option maxHeartbeats 1000000 in
theorem farStates_ok (r : Nat) (l : List FAct) (v : Value) (u : Value) (w : World) (hrow : w.ownsRow 0 84 3 v l.length (fencs l)) (h : Sts w r 0 false [] u) (hne : ∀ k, v.ownBlock = some k → k < r) (hl : l.length ≤ 65536) :
    Calls Try.prog 77 #[.func (.func 100) #[] #[.pointer (some ⟨r + 1, 0, none⟩), .pointer (some ⟨r + 2, 0, none⟩)], v] w fun e w' => (∃ n, e = .returned (.int .i64 n)) ∧ (∃ s c u', Sts w' r s c (farF 0 false l) u') ∧ Keeps (fun k => r ≤ k) w w' := by
  obtain ⟨a, cap, rfl, _, _⟩ := ownsRow_form hrow
  have HROW := Lib.hid hrow
  have HS := Lib.hid h
  have HNE := Lib.hid hne
  clear hrow h hne
  go_enter Try.func77, Try.ntmps77
  go_wp2
  go_loopw [9] (fun i wr => ∃ (j : Nat) (sj : Int) (cj : Bool) (L : List Int) (u : Value), i = .int .i64 j ∧ j ≤ l.length ∧ L.length ≤ j ∧ farF 0 false l = L ++ farF sj cj (l.drop j) ∧ Sts wr r sj cj L u ∧ Keeps (fun k => r ≤ k) w wr) (fun i _ => (l.length - intOf i).toNat)
  case atStart => exact ⟨0, 0, false, [], u, rfl, by omega, by simp, by simp, HS.out, Keeps.refl _ _⟩
  case round =>
    obtain ⟨j, sj, cj, L, uj, rfl, hj, hLj, hlen, hs, hk⟩ := hrel
    by_cases hlt : j < l.length
    · obtain ⟨x, hx⟩ : ∃ x, l[j]? = some x := ⟨_, List.getElem?_eq_getElem hlt⟩
      have hrow := ownsRow_kept HROW.out fun k hk' => hk.block k (by obtain ⟨cs, hcs⟩ := ownsRow_blk HROW.out hk'; exact hcs.lt) (by have := HNE.out k hk'; omega)
      obtain ⟨g, rfl⟩ : ∃ g, a = some ⟨g, 0, none⟩ := by
        rcases hrow.2 with ⟨hn, h0⟩ | ⟨g, cap', cur, hv, _⟩
        · omega
        · cases hv; exact ⟨g, rfl⟩
      have d0 : wr.cell? ⟨g, j * 3, none⟩ = some (.int .i64 x.step) := rowF_cell hrow (j := 0) hx rfl
      have d1 : wr.cell? ⟨g, j * 3 + 1, none⟩ = some (.bool x.owner) := rowF_cell hrow (j := 1) hx rfl
      have d2 : wr.cell? ⟨g, j * 3 + 2, none⟩ = some (.int .i64 x.was) := rowF_cell hrow (j := 2) hx rfl
      have hdrop : l.drop j = x :: l.drop (j + 1) := by
        rw [List.drop_eq_getElem_cons hlt]
        rw [List.getElem?_eq_getElem hlt] at hx
        cases hx; rfl
      rw [hdrop, farF_cons] at hlen
      have C := States1_ok r sj cj L uj x (wr.alloc (.cells #[.int .i64 x.step, .bool x.owner, .int .i64 x.was] 84)) (hs.keep ((Keeps.refl _ _).alloc _)) (by omega)
      have hk1 := hk.alloc (.cells #[.int .i64 x.step, .bool x.owner, .int .i64 x.was] 84)
      have HK1 := Lib.hid hk1
      cases hst : stepF sj cj x with
      | none =>
        rw [hst] at hlen C
        dsimp only at hlen
        simp only [Option.isSome_none, Option.getD_none, Option.map_none, Option.toList_none, List.append_nil] at C hlen
        have HLEN := Lib.hid hlen
        clear hlen hk1 hs hk hrow hdrop hst
        go_wp2_with (go_at_call 100; refine C.mono ?_; clear C; rintro e w3 ⟨rfl, ⟨u3, hs3⟩, hk3⟩; have HS3 := Lib.hid hs3; have HK3 := Lib.hid hk3; clear hs3 hk3)
        go_ret
        exact ⟨⟨_, rfl⟩, ⟨sj, cj, u3, by rw [HLEN.out]; exact HS3.out⟩, HK1.out.trans HK3.out (fun i hi => .inl hi)⟩
      | some p =>
        rw [hst] at hlen C
        dsimp only at hlen
        simp only [Option.isSome_some, Option.getD_some, Option.map_some, Option.toList_some] at C
        have HLEN := Lib.hid hlen
        clear hlen hk1 hs hk hrow hdrop hst
        go_wp2_with (go_at_call 100; refine C.mono ?_; clear C; rintro e w3 ⟨rfl, ⟨u3, hs3⟩, hk3⟩; have HS3 := Lib.hid hs3; have HK3 := Lib.hid hk3; clear hs3 hk3)
        go_roundw
        case rel => exact ⟨j + 1, p.1, p.2, L ++ [p.1], u3, by simp, by omega, by simp; omega, by rw [HLEN.out]; simp, HS3.out, HK1.out.trans HK3.out (fun i hi => .inl hi)⟩
        case measure => simp [intOf]; omega
    · obtain rfl : j = l.length := by omega
      rw [List.drop_length] at hlen
      simp only [farF, List.append_nil] at hlen
      have HLEN := Lib.hid hlen
      have HK := Lib.hid hk
      have HSJ := Lib.hid hs
      clear hlen hk hs
      go_wp2
      go_ret
      exact ⟨⟨_, rfl⟩, ⟨sj, cj, uj, by rw [HLEN.out]; exact HSJ.out⟩, HK.out⟩

set_option maxRecDepth 100000 in
theorem States_ok (l : List FAct) (v : Value) (w : World) (hrow : w.ownsRow 0 84 3 v l.length (fencs l)) (hl : l.length ≤ 65536) :
    Calls Try.prog 76 #[v] w fun e w' => e = .returned (.func (.func 101) #[] #[.pointer (some ⟨w.heap.size + 2, 0, none⟩)]) ∧ (∃ s c u, Sts w' w.heap.size s c (farF 0 false l) u) ∧ Keeps Nothing w w' := by
  have hlt : ∀ k, v.ownBlock = some k → k < w.heap.size := fun k hk => by obtain ⟨cs, hcs⟩ := ownsRow_blk hrow hk; exact hcs.lt
  obtain ⟨a, cap, rfl, _, _⟩ := ownsRow_form hrow
  have HROW := Lib.hid hrow
  have HLT := Lib.hid hlt
  clear hrow hlt
  go_enter Try.func76, Try.ntmps76
  go_upto_region 3 with fail
  obtain ⟨r, hr⟩ : ∃ r, w.heap.size = r := ⟨_, rfl⟩
  have hk : Keeps Nothing w (((w.alloc (.cells #[.int .i64 0, .bool false] 142)).alloc (.cells #[.pointer (some ⟨w.heap.size, 0, none⟩)] 140)).alloc (.cells #[.slice none 0 0] 139)) := (((Keeps.refl _ _).alloc _).alloc _).alloc _
  have hs : Sts (((w.alloc (.cells #[.int .i64 0, .bool false] 142)).alloc (.cells #[.pointer (some ⟨w.heap.size, 0, none⟩)] 140)).alloc (.cells #[.slice none 0 0] 139)) r 0 false [] (.slice none 0 0) := by
    rw [hr]
    exact ⟨(Blk.new' _ _ (by simp [hr])).alloc _, Blk.new' _ _ (by simp [hr]), World.ownsRow_nil _ _ _ _, by rw [← hr]; exact ((Blk.new _ _ _).alloc _).alloc _⟩
  have hrow1 := ownsRow_kept HROW.out fun k hk' => hk.block k (HLT.out k hk') id
  have hlt1 : ∀ k, (Value.slice a l.length cap).ownBlock = some k → k < r := fun k hk => by rw [← hr]; exact HLT.out k hk
  rw [hr] at hk hs hrow1 ⊢
  have C := farStates_ok r l _ _ _ hrow1 hs hlt1 hl
  have HK := Lib.hid hk
  have HRS := Lib.hid hr
  clear hk hs hrow1 hlt1 hr
  go_wp2_with (go_at_call 77; refine C.mono ?_; clear C; rintro e w3 ⟨⟨n3, rfl⟩, hs3, hk3⟩; have HS3 := Lib.hid hs3; have HK3 := Lib.hid hk3; clear hs3 hk3)
  go_ret
  exact ⟨by rw [HRS.out]; rfl, by rw [HRS.out]; exact HS3.out, HK.out.trans HK3.out (fun i hi => .inr (by have := HRS.out; omega))⟩

/-- The list of the states that were told. -/
def StList (W : World) (b base : Nat) (v : Value) (L : List Int) : Prop := Blk W b #[v] 139 ∧ W.ownsRow base 77 1 v L.length (L.map (Value.int .i64))

theorem rowS_cell {w : World} {b g cap : Nat} {l : List Int} (h : w.ownsRow b 77 1 (.slice (some ⟨g, 0, none⟩) l.length cap) l.length (l.map (Value.int .i64))) {i : Nat} {x : Int} (hi : l[i]? = some x) : w.cell? ⟨g, i, none⟩ = some (.int .i64 x) := by
  have hlt := (List.getElem?_eq_some_iff.1 hi).1
  rw [h.cellAt i (by omega)]
  simp [hi]

set_option maxRecDepth 100000 in
set_option maxHeartbeats 1000000 in
theorem States2_seq {σ : Type} {M : World → σ → List Nat → Prop} (_hM : Framed M) (x0 : σ) (bl base : Nat) (v : Value) (l : List Int) (hlen : l.length ≤ 65536) :
    Seq Try.prog 101 #[.pointer (some ⟨bl, 0, none⟩)] M (fun i (x : Int) => #[.int .i64 i, .int .i64 x]) (fun W => StList W bl base v l) x0 l x0 := by
  intro lr J Jx hJ hJx hbox hY S W h
  have hL := hbox h
  obtain ⟨a, cap, rfl, _, _⟩ := ownsRow_form hL.2
  have c1 := hL.1.cell 0
  simp at c1
  clear hL
  refine (callsIn_wide (n := 3)).1 ?_
  refine callsIn_of_wp Try.func101 rfl trivial ?_ rfl
  simp only [Try.ntmps101, List.size_toArray, List.length_cons, List.length_nil, Nat.reduceAdd, Nat.reduceSub, Array.replicate_succ, Array.replicate_zero, List.push_toArray, List.append_toArray, List.nil_append, List.cons_append]
  gi_wp2
  refine wpIn_wide.2 ?_
  refine wp_scope_fwd 0 rfl ?_
  refine (wpIn_wide (n := 3)).1 ?_
  gi_wp2
  refine wpIn_label ?_
  gi_wp2
  gi_loopw [7] (fun p wr => ∃ (k : Nat) (S U : List Nat), p = .int .i64 k ∧ k ≤ l.length ∧ J x0 S U (l.take k) wr) (fun p _ => (l.length - intOf p).toNat)
  case atStart => exact ⟨0, S, [], rfl, by omega, by simpa using h⟩
  case round =>
    obtain ⟨k, S1, U1, rfl, hk, hj⟩ := hrel
    have hL := hbox hj
    by_cases hlt : k < l.length
    · obtain ⟨x, hx⟩ : ∃ x, l[k]? = some x := ⟨_, List.getElem?_eq_getElem hlt⟩
      obtain ⟨g, rfl⟩ : ∃ g, a = some ⟨g, 0, none⟩ := by
        rcases hL.2.2 with ⟨hn, h0⟩ | ⟨g, cap', cur, hv, _⟩
        · omega
        · cases hv; exact ⟨g, rfl⟩
      have d0 : wr.cell? ⟨g, k, none⟩ = some (.int .i64 x) := rowS_cell hL.2 hx
      clear hL
      have hap : l.take k ++ [x] = l.take (k + 1) := by rw [List.take_add_one, hx]; rfl
      have hYk := hY x (by rw [hap]; exact List.take_prefix _ _) hj
      rw [hap, List.length_take_of_le hk] at hYk
      obtain ⟨fn, tmps, assign, body, hy, hR⟩ := hYk (3 - 1)
      have HJ := Lib.hid hJ
      clear hJ hj hx hap
      gi_wp2
      refine hR.mono ?_
      rintro e W3 (⟨rfl, hJ3, -⟩ | ⟨rfl, hJx3, -⟩)
      · gi_wp2
        go_roundw
        case rel => exact ⟨k + 1, _, _, by simp, by omega, hJ3⟩
        case measure => simp [intOf]; omega
      · gi_wp2
        refine jump_normal ?_
        exact ⟨rfl, _, results_none rfl _ _ _, ⟨_, rfl⟩, .inr ⟨_, _, _, _, List.take_prefix _ _, hJx3⟩⟩
    · obtain rfl : k = l.length := by omega
      clear hL
      gi_wp2
      refine jump_normal ?_
      rw [List.take_length] at hj
      exact ⟨rfl, _, results_none rfl _ _ _, ⟨_, rfl⟩, .inl ⟨_, _, hj⟩⟩

end Go.Proofs.Ytejbeioiomjbpaa

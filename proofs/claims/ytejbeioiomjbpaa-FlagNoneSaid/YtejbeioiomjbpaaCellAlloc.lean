import Derived.Test.YtejbeioiomjbpaaCellMeth
namespace Go.Proofs.Ytejbeioiomjbpaa
open Go.RowKit

theorem Blk.new' {w : World} {n : Nat} (cs : Array Value) (e : TypeId) (h : n = w.heap.size) : Blk (w.alloc (.cells cs e)) n cs e := h ▸ Blk.new w cs e

theorem IsArena.lens {w : World} {p : Nat} {A : Ar} {S : List Nat} (h : IsArena w p A S) : (A.cells.length : Int) ≤ A.most ∧ A.most ≤ 65536 := ⟨h.1.fits, h.1.most2⟩

set_option maxRecDepth 100000 in
set_option maxHeartbeats 1000000 in
theorem New_ok (m : Int) (h1 : 1 ≤ m) (h2 : m ≤ 65536) (w : World) :
    Calls Try.prog 14 #[.int .i64 m] w fun e w' => ∃ p, e = .returned (.tuple #[.pointer (some ⟨p, 0, none⟩), .int .i64 0]) ∧ IsArena w' p ⟨[], m, [], 0⟩ [p] ∧ w.heap.size ≤ p ∧ Keeps Nothing w w' := by
  go_enter Try.func14, Try.ntmps14
  go_wp2
  refine bodyPost_ret (v := .agg #[.int .i64 1, .int .i64 65536]) (by simp [results, Try.results51, go_sem]) rfl ?_
  go_wp2
  go_ret2
  refine ⟨_, rfl, ⟨⟨h1, h2, by show ((([] : List Int).length : Int)) ≤ m; simp; omega, rfl, (by decide : 0 < 4611686018427387904), by simp⟩, .slice none 0 0, .slice none 0 0, Blk.new' _ _ (by simp), World.ownsRow_nil _ _ _ _, World.ownsRow_nil _ _ _ _, rfl⟩, by omega, ?_⟩
  exact (((Keeps.refl _ w).alloc _).alloc _).alloc _

set_option maxRecDepth 100000 in
set_option maxHeartbeats 1000000 in
theorem New_bad (m : Int) (h : m < 1 ∨ 65536 < m) (w : World) :
    Calls Try.prog 14 #[.int .i64 m] w fun e w' => e = .returned (.tuple #[.pointer none, .int .i64 2]) ∧ Keeps Nothing w w' := by
  rcases h with h | h
  · go_enter Try.func14, Try.ntmps14
    go_wp2
    refine bodyPost_ret (v := .agg #[.int .i64 1, .int .i64 65536]) (by simp [results, Try.results51, go_sem]) rfl ?_
    go_wp2
    go_ret2
    exact ⟨rfl, ((Keeps.refl _ w).alloc _).alloc _⟩
  · have h' : ¬ m < 1 := by omega
    go_enter Try.func14, Try.ntmps14
    go_wp2
    refine bodyPost_ret (v := .agg #[.int .i64 1, .int .i64 65536]) (by simp [results, Try.results51, go_sem]) rfl ?_
    go_wp2
    go_ret2
    exact ⟨rfl, ((Keeps.refl _ w).alloc _).alloc _⟩

set_option maxHeartbeats 1000000 in
theorem Len_ok {p : Nat} {A : Ar} {S : List Nat} {w : World} (h : IsArena w p A S) :
    Calls Try.prog 46 #[.pointer (some ⟨p, 0, none⟩)] w fun e w' => e = .returned (.int .i64 A.cells.length) ∧ w = w' := by
  have H := Lib.hid h
  obtain ⟨hok, lv, cv, hb, hl, hc, hS⟩ := h
  obtain ⟨av, cap, rfl, _, _⟩ := ownsRow_form hc
  have c1 := hb.cell 2
  simp at c1
  clear hb hl hc hok hS
  go_enter Try.func46, Try.ntmps46
  go_wp2_with (go_at_call 55; refine (none_ar H.out).mono ?_; rintro e w' ⟨rfl, rfl⟩)
  go_ret
  exact ⟨rfl, rfl⟩

set_option maxHeartbeats 1000000 in
theorem Most_ok {p : Nat} {A : Ar} {S : List Nat} {w : World} (h : IsArena w p A S) :
    Calls Try.prog 47 #[.pointer (some ⟨p, 0, none⟩)] w fun e w' => e = .returned (.int .i64 A.most) ∧ w = w' := by
  have H := Lib.hid h
  obtain ⟨hok, lv, cv, hb, hl, hc, hS⟩ := h
  have c1 := hb.cell 3
  simp at c1
  clear hb hl hc hok hS
  go_enter Try.func47, Try.ntmps47
  go_wp2_with (go_at_call 55; refine (none_ar H.out).mono ?_; rintro e w' ⟨rfl, rfl⟩)
  go_ret
  exact ⟨rfl, rfl⟩

set_option maxHeartbeats 1000000 in
theorem Count_ok {p : Nat} {A : Ar} {S : List Nat} {w : World} (h : IsArena w p A S) :
    Calls Try.prog 26 #[.pointer (some ⟨p, 0, none⟩)] w fun e w' => e = .returned (.int .u64 A.many) ∧ w = w' := by
  have H := Lib.hid h
  obtain ⟨hok, lv, cv, hb, hl, hc, hS⟩ := h
  have c1 := hb.cell 1
  simp at c1
  clear hb hl hc hok hS
  go_enter Try.func26, Try.ntmps26
  go_wp2_with (go_at_call 55; refine (none_ar H.out).mono ?_; rintro e w' ⟨rfl, rfl⟩)
  go_ret
  exact ⟨rfl, rfl⟩

set_option maxHeartbeats 1000000 in
theorem Len_none {v : Value} {w : World} (h : NoArena w v) :
    Calls Try.prog 46 #[v] w fun e w' => e = .returned (.int .i64 0) ∧ w = w' := by
  have H := Lib.hid h
  clear h
  go_enter Try.func46, Try.ntmps46
  go_wp2_with (go_at_call 55; refine (none_no _ _ H.out).mono ?_; rintro e w' ⟨rfl, rfl⟩)
  go_ret
  exact ⟨rfl, rfl⟩

set_option maxHeartbeats 1000000 in
theorem Most_none {v : Value} {w : World} (h : NoArena w v) :
    Calls Try.prog 47 #[v] w fun e w' => e = .returned (.int .i64 0) ∧ w = w' := by
  have H := Lib.hid h
  clear h
  go_enter Try.func47, Try.ntmps47
  go_wp2_with (go_at_call 55; refine (none_no _ _ H.out).mono ?_; rintro e w' ⟨rfl, rfl⟩)
  go_ret
  exact ⟨rfl, rfl⟩

set_option maxHeartbeats 1000000 in
theorem Count_none {v : Value} {w : World} (h : NoArena w v) :
    Calls Try.prog 26 #[v] w fun e w' => e = .returned (.int .u64 0) ∧ w = w' := by
  have H := Lib.hid h
  clear h
  go_enter Try.func26, Try.ntmps26
  go_wp2_with (go_at_call 55; refine (none_no _ _ H.out).mono ?_; rintro e w' ⟨rfl, rfl⟩)
  go_ret
  exact ⟨rfl, rfl⟩

def zeros (n : Nat) : List Int := List.replicate n 0

set_option maxRecDepth 100000 in
set_option maxHeartbeats 1000000 in
theorem put_ok (p : Nat) (A : Ar) (S : List Nat) (mb n : Nat) (w : World) (h : IsArena w p A S) (hn : w.ownsRow 0 39 1 (.slice (some ⟨mb, 0, none⟩) n n) n ((zeros n).map (Value.int .u64))) (hfit : (A.cells.length : Int) + n ≤ A.most) :
    Calls Try.prog 56 #[.pointer (some ⟨p, 0, none⟩), .slice (some ⟨mb, 0, none⟩) n n] w fun e w' => e = .returned (.tuple #[]) ∧
      ∃ S', IsArena w' p { A with cells := A.cells ++ zeros n } S' ∧ Turn S S' w w' := by
  obtain ⟨hok, lv, cv, hb, hl, hc, hS⟩ := h
  obtain ⟨av, cap, rfl, _, _⟩ := ownsRow_form hc
  have c1 := hb.cell 2
  have f1 := hb.frozen 2
  simp at c1
  have hplt := hb.lt
  obtain ⟨i0, hi, hz0, hz1, hz2⟩ := info_parts infoU64
  have hm2 := hok.most2
  have hpc : ∀ k, (Value.slice av A.cells.length cap).ownBlock = some k → ¬ k = p := fun k hk he => by
    obtain ⟨cs, hcs⟩ := ownsRow_blk hc hk
    exact hb.ne hcs (by decide) he.symm
  have hsrc : ∀ j u, ((zeros n).map (Value.int .u64))[j]? = some u → w.cell? ((⟨mb, 0, none⟩ : Addr).add j) = some u := fun j u hj => by
    rw [add_zero_at, hn.cellAt j ?_]
    · exact hj
    · have := (List.getElem?_eq_some_iff.1 hj).1
      simpa [zeros] using this
  have H1 := Lib.hid hc
  have H2 := Lib.hid hsrc
  have HB := Lib.hid hb
  have HL := Lib.hid hl
  have HOK := Lib.hid hok
  have HS := Lib.hid hS
  have HPC := Lib.hid hpc
  clear hb hl hc hok hS hsrc hn hpc
  go_enter Try.func56, Try.ntmps56
  go_wp2_with (at_builtin; refine wpList_append_own_at _ rfl (.tmp 8) (.tmp 9) 38 rfl 0 39 i0 (.int .u64 0) 1 8 Try.underlying38 hi hz0 hz1 hz2 rfl (by decide) _ _ _ rfl H1.out ⟨mb, 0, none⟩ n n ((zeros n).map (Value.int .u64)) rfl (by simp [zeros]) H2.out (by intro u hu; simp only [List.mem_map] at hu; obtain ⟨z, _, rfl⟩ := hu; rfl) (by unfold maxLen; omega) (by omega) (Nat.zero_le _) ?_)
  intro v' w1 hown hgrow _ hat
  obtain ⟨a', cap', rfl, _, _⟩ := ownsRow_form hown
  have hgrow' : w.grownBy w1 (Value.slice av A.cells.length cap).ownBlock := hgrow
  have hb1 : Blk w1 p _ _ := (hgrow'.block p hplt (fun h => HPC.out _ h.symm rfl)).trans HB.out
  have c0' := hb1.cell 2
  have f0' := hb1.frozen 2
  simp at c0'
  have HOWN := Lib.hid hown
  have HG := Lib.hid hgrow'
  have HAT := Lib.hid hat
  have HB1 := Lib.hid hb1
  clear hown hgrow hgrow' hat hb1 c1 f1
  go_wp2
  go_end0
  have hne : ∀ k, (Value.slice a' (A.cells.length + n) cap').ownBlock = some k → ¬ k = p := fun k hk he => by
    obtain ⟨cs, hcs⟩ := ownsRow_blk HOWN.out hk
    exact HB1.out.ne hcs (by decide) he.symm
  have hlv : ∀ k, lv.ownBlock = some k → (w1.setCell ⟨p, 2, none⟩ (.slice a' (A.cells.length + n) cap')).heap[k]? = w.heap[k]? := fun k hk => by
    obtain ⟨cs, hcs⟩ := ownsRow_blk HL.out hk
    rw [heap_setCell_other _ _ _ _ (fun e => HB.out.ne hcs (by decide) (show p = k from e.symm))]
    refine HG.out.block k hcs.lt (fun e => ?_)
    obtain ⟨cs', hcs'⟩ := ownsRow_blk H1.out e.symm
    exact hcs'.ne hcs (by decide) rfl
  have hok := HOK.out
  refine ⟨rfl, _, ⟨⟨hok.most1, hok.most2, by simp [zeros]; omega, hok.ring1, hok.many1, ?_⟩, lv, .slice a' (A.cells.length + n) cap', HB1.out.set 2 _, ownsRow_kept HL.out hlv, ?_, rfl⟩, ?_, ?_⟩
  · intro c hc
    rcases List.mem_append.1 hc with h | h
    · exact hok.u64 c h
    · simp [zeros] at h; rw [h.2]; decide
  · have h2 := ownsRow_kept (w' := w1.setCell ⟨p, 2, none⟩ (.slice a' (A.cells.length + n) cap')) HOWN.out fun k hk => heap_setCell_other _ _ _ _ (hne k hk)
    simpa [zeros] using h2
  · have hk : Keeps (· ∈ S) w w1 := (Keeps.refl _ w).grown HG.out fun k hk => .inl (by
      rw [HS.out]
      simp only [List.mem_cons, List.mem_append, Option.mem_toList]
      exact .inr (.inr hk.symm.symm))
    exact hk.set _ _ (.inl (by rw [HS.out]; simp))
  · intro k hk
    rw [HS.out]
    simp only [List.mem_cons, List.mem_append, Option.mem_toList] at hk ⊢
    rcases hk with rfl | hk | hk
    · exact .inl (.inl rfl)
    · exact .inl (.inr (.inl hk))
    · rcases HAT.out with h | h
      · exact .inl (.inr (.inr (h ▸ hk)))
      · have h2 : some w.heap.size = some k := h ▸ hk
        simp at h2
        exact .inr (by omega)

end Go.Proofs.Ytejbeioiomjbpaa

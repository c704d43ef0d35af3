import Derived.Test.YtejbeioiomjbpaaCellAlloc2
namespace Go.Proofs.Ytejbeioiomjbpaa
open Go.RowKit

theorem rowU_one (k : IntKind) (l : List Int) : ∀ u ∈ l.map (Value.int k), u.oneCell' = true := by
  intro u hu; simp only [List.mem_map] at hu; obtain ⟨z, _, rfl⟩ := hu; rfl
theorem encs_one (l : List Acc) : ∀ u ∈ encs l, u.oneCell' = true := by
  intro u hu
  simp only [encs, List.mem_flatMap] at hu
  obtain ⟨x, _, hx⟩ := hu
  exact acc_one x u hx

/-- The cells of an owned row, where a source is asked for. -/
theorem ownsRow_src {w : World} {base : Nat} {e : TypeId} {size g cap n : Nat} {xs : List Value} (h : w.ownsRow base e size (.slice (some ⟨g, 0, none⟩) n cap) n xs) :
    ∀ j u, xs[j]? = some u → w.cell? ((⟨g, 0, none⟩ : Addr).add j) = some u := fun j u hj => by
  rw [add_zero_at, h.cellAt j ?_]
  · exact hj
  · have := (List.getElem?_eq_some_iff.1 hj).1
    rw [h.1] at this
    exact this

theorem ownsRow_base {w : World} {base base' : Nat} {e : TypeId} {size n : Nat} {v : Value} {xs : List Value} (h : w.ownsRow base e size v n xs) (hb : base' ≤ base) : w.ownsRow base' e size v n xs := by
  refine ⟨h.1, ?_⟩
  rcases h.2 with hn | ⟨g, cap, cur, rfl, hbg, rest⟩
  · exact .inl hn
  · exact .inr ⟨g, cap, cur, rfl, Nat.le_trans hb hbg, rest⟩

set_option maxRecDepth 100000 in
set_option maxHeartbeats 1000000 in
theorem CloneU_ok (v : Value) (l : List Int) (w : World) (h : w.ownsRow 0 39 1 v l.length (l.map (Value.int .u64))) (hlen : l.length ≤ 65536) :
    Calls Try.prog 87 #[v] w fun e w' => ∃ v', e = .returned v' ∧ w'.ownsRow w.heap.size 39 1 v' l.length (l.map (Value.int .u64)) ∧ Keeps Nothing w w' := by
  obtain ⟨a, cap, rfl, _, _⟩ := ownsRow_form h
  obtain ⟨i0, hi, hz0, hz1, hz2⟩ := info_parts infoU64
  have qT : ∀ (w : World) (a : Option Addr) (n c n' c' : Nat), (binOp .eql 38 (.slice a n c) (.slice none n' c')).run Try.prog w = .ok (.bool a.isNone) w := fun w a n c n' c' => Lib.run_eql_slice_nil w _ _ a n c n' c' Try.underlying38
  rcases h.2 with ⟨h1, h2⟩ | ⟨g, cap', cur, h1, _, hg, hrest⟩
  · simp at h1
    obtain ⟨rfl, _, rfl⟩ := h1
    have hl : l = [] := List.eq_nil_of_length_eq_zero h2
    subst hl
    clear h hlen
    go_enter Try.func87, Try.ntmps87
    go_wp2
    go_ret
    exact ⟨_, rfl, World.ownsRow_nil _ _ _ _, Keeps.refl _ _⟩
  · simp at h1
    obtain ⟨rfl, rfl⟩ := h1
    have hsrc := Lib.hid (ownsRow_src h)
    have H := Lib.hid h
    clear h hg
    go_enter Try.func87, Try.ntmps87
    go_wp2_with (at_builtin; refine wpList_append_own_at _ rfl (.tmp 5) (.tmp 6) 38 rfl w.heap.size 39 i0 (.int .u64 0) 1 8 Try.underlying38 hi hz0 hz1 hz2 rfl (by decide) _ 0 [] rfl (World.ownsRow_made w #[] 0 (Nat.le_refl _) (by decide) rfl) ⟨g, 0, none⟩ l.length cap (l.map (Value.int .u64)) rfl (by simp) (fun j u hj => (World.cell?_alloc_lt _ _ _ (by have := World.block_lt_of_cell? _ _ (hsrc.out j u hj); exact this)).trans (hsrc.out j u hj)) (rowU_one _ _) (by unfold maxLen; omega) (by omega) (by simp) ?_)
    intro v' w1 hown hgrow _ hat
    have hk : Keeps Nothing w w1 := ((Keeps.refl _ w).alloc _).grown hgrow (fun k hk => by
      have h2 : some w.heap.size = some k := hk.symm ▸ rfl
      simp at h2; exact .inr (by omega))
    have HO := Lib.hid hown
    have HK := Lib.hid hk
    clear hown hgrow hat hk
    go_wp2
    go_ret
    exact ⟨_, rfl, HO.out, HK.out⟩

set_option maxRecDepth 100000 in
set_option maxHeartbeats 1000000 in
theorem CloneA_ok (v : Value) (l : List Acc) (w : World) (h : w.ownsRow 0 54 5 v l.length (encs l)) (hlen : l.length ≤ 65536) :
    Calls Try.prog 88 #[v] w fun e w' => ∃ v', e = .returned v' ∧ w'.ownsRow w.heap.size 54 5 v' l.length (encs l) ∧ Keeps Nothing w w' := by
  obtain ⟨a, cap, rfl, _, _⟩ := ownsRow_form h
  obtain ⟨i0, hi, hz0, hz1, hz2⟩ := info_parts infoAccess
  have qT : ∀ (w : World) (a : Option Addr) (n c n' c' : Nat), (binOp .eql 57 (.slice a n c) (.slice none n' c')).run Try.prog w = .ok (.bool a.isNone) w := fun w a n c n' c' => Lib.run_eql_slice_nil w _ _ a n c n' c' Try.underlying57
  rcases h.2 with ⟨h1, h2⟩ | ⟨g, cap', cur, h1, _, hg, hrest⟩
  · simp at h1
    obtain ⟨rfl, _, rfl⟩ := h1
    have hl : l = [] := List.eq_nil_of_length_eq_zero h2
    subst hl
    clear h hlen
    go_enter Try.func88, Try.ntmps88
    go_wp2
    go_ret
    exact ⟨_, rfl, World.ownsRow_nil _ _ _ _, Keeps.refl _ _⟩
  · simp at h1
    obtain ⟨rfl, rfl⟩ := h1
    have hsrc := Lib.hid (ownsRow_src h)
    have H := Lib.hid h
    clear h hg
    go_enter Try.func88, Try.ntmps88
    go_wp2_with (at_builtin; refine wpList_append_own_at _ rfl (.tmp 5) (.tmp 6) 57 rfl w.heap.size 54 i0 (.agg #[.int .i64 0, .int .i64 0, .int .u64 0, .int .u64 0, .bool false]) 5 40 Try.underlying57 hi hz0 hz1 hz2 rfl (by decide) _ 0 [] rfl (World.ownsRow_made w #[] 0 (Nat.le_refl _) (by decide) rfl) ⟨g, 0, none⟩ l.length cap (encs l) rfl (encs_length _) (fun j u hj => (World.cell?_alloc_lt _ _ _ (by have := World.block_lt_of_cell? _ _ (hsrc.out j u hj); exact this)).trans (hsrc.out j u hj)) (encs_one _) (by unfold maxLen; omega) (by omega) (by simp) ?_)
    intro v' w1 hown hgrow _ hat
    have hk : Keeps Nothing w w1 := ((Keeps.refl _ w).alloc _).grown hgrow (fun k hk => by
      have h2 : some w.heap.size = some k := hk.symm ▸ rfl
      simp at h2; exact .inr (by omega))
    have HO := Lib.hid hown
    have HK := Lib.hid hk
    clear hown hgrow hat hk
    go_wp2
    go_ret
    exact ⟨_, rfl, HO.out, HK.out⟩

end Go.Proofs.Ytejbeioiomjbpaa

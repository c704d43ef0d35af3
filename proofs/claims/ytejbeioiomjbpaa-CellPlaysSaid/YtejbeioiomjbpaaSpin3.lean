/-
  Layer 3: Tries, gone over.
-/
import Derived.Test.YtejbeioiomjbpaaSpin2
namespace Go.Proofs.Ytejbeioiomjbpaa
open Go.RowKit Go.Shelf
attribute [local go_sem] Oper.semAt_some

set_option maxRecDepth 100000 in
set_option maxHeartbeats 1000000 in
theorem Tries1_seq (a : Option Addr) (k most : Int) (hmost : most ≤ 9223372036854775807) (ba bk bm : Nat) (X : Option Ar) (hm : Few X (most.toNat + 1)) :
    Seq Try.prog 70 #[.pointer (some ⟨ba, 0, none⟩), .pointer (some ⟨bk, 0, none⟩), .pointer (some ⟨bm, 0, none⟩)] (AtMem (.pointer a)) (fun i b => #[.int .i64 i, .bool b])
      (fun W => Blk W ba #[.pointer a] 24 ∧ Blk W bk #[.int .i64 k] 3 ∧ Blk W bm #[.int .i64 most] 3) X (triesL X k most.toNat).1 (triesL X k most.toNat).2 := by
  intro l J Jx hJ hJx hbox hY S W h
  obtain ⟨hb1, hb2, hb3⟩ := hbox h
  have c1 := hb1.cell 0
  have c2 := hb2.cell 0
  have c3 := hb3.cell 0
  have l1 := hb1.lt
  have l2 := hb2.lt
  have l3 := hb3.lt
  simp at c1 c2 c3
  have hS := Mem.lt (hJ.mem h)
  clear hb1 hb2 hb3
  refine calls_of_wpN Try.func70 rfl ?_
  simp only [Try.ntmps70, List.size_toArray, List.length_cons, List.length_nil, Nat.reduceAdd, Nat.reduceSub, Array.replicate_succ, Array.replicate_zero, List.push_toArray, List.append_toArray, List.nil_append, List.cons_append]
  go_wp2_with fail
  refine wp_scope_fwd 0 rfl ?_
  go_wp2_with fail
  refine wp_label ?_
  go_wp2_with (go_at_call 71; refine (every_ok _ _ _ _).mono ?_; rintro e w' ⟨rfl, rfl⟩)
  obtain ⟨n0, hn0⟩ : ∃ n0, W.heap.size = n0 := ⟨_, rfl⟩
  obtain ⟨W2, hW2⟩ : ∃ W2, ((W.alloc (.cells #[.func (.yield l) #[] #[]] 80)).alloc (.cells #[.pointer a, .int .i64 k] 109)).alloc (.cells #[.int .i64 most] 3) = W2 := ⟨_, rfl⟩
  have hy0 : Blk W2 n0 #[.func (.yield l) #[] #[]] 80 := by rw [← hW2, ← hn0]; exact ((Blk.new _ _ _).alloc _).alloc _
  have hy1 : Blk W2 (n0 + 1) #[.pointer a, .int .i64 k] 109 := by rw [← hW2]; exact (Blk.new' _ _ (by simp [hn0])).alloc _
  have hy2 : Blk W2 (n0 + 2) #[.int .i64 most] 3 := by rw [← hW2]; exact Blk.new' _ _ (by simp [hn0])
  have hk2 : Keeps Nothing W W2 := by rw [← hW2]; exact (((Keeps.refl _ _).alloc _).alloc _).alloc _
  have hz2 : W2.heap.size = n0 + 3 := by rw [← hW2]; simp [hn0]
  rw [hW2]
  rw [hn0] at hS ⊢
  clear hW2
  let F : List (Nat × Obj) := [(n0, .cells #[.func (.yield l) #[] #[]] 80 (0, 0)), (n0 + 1, .cells #[.pointer a, .int .i64 k] 109 (0, 0)), (n0 + 2, .cells #[.int .i64 most] 3 (0, 0))]
  have hF : Lie W2 F := by
    intro x hx
    simp only [F, List.mem_cons, List.not_mem_nil, or_false] at hx
    rcases hx with rfl | rfl | rfl
    · exact hy0
    · exact hy1
    · exact hy2
  have hI : inner J F X S [] [] W2 := inner_new hJ (atMem_framed _) h hk2 hF (by rw [hn0]; simp [own, F]) (by simp)
  have hF0 : ∀ {W : World}, Lie W F → Blk W n0 #[.func (.yield l) #[] #[]] 80 := fun h => h (n0, _) (by simp [F])
  have hF1 : ∀ {W : World}, Lie W F → Blk W (n0 + 1) #[.pointer a, .int .i64 k] 109 := fun h => h (n0 + 1, _) (by simp [F])
  have hF2 : ∀ {W : World}, Lie W F → Blk W (n0 + 2) #[.int .i64 most] 3 := fun h => h (n0 + 2, _) (by simp [F])
  clear_value F
  refine wp_range_seq (atMem_framed (.pointer a)) (every1_seq a k most hmost (n0 + 1 + 1) (n0 + 1) X hm) rfl (enters_of Try.func98 (by kernel_rfl) rfl) (fun _ _ => rfl)
    (inner J F) (fun c x S U pre W => c = .exit 0 ∧ inner Jx F x S U pre W) (inner_rides hJ _) (fun c => (inner_rides hJx F).pure _)
    (fun h => ⟨hF2 h.2.1, hF1 h.2.1⟩) S hI
    (fun _ i b => { tmps := #[.func (.yield l) #[] #[], .pointer (some ⟨ba, 0, none⟩), .pointer (some ⟨bk, 0, none⟩), .pointer (some ⟨bm, 0, none⟩), .pointer (some ⟨n0, 0, none⟩), .int .i64 i, .bool b, .pointer a, .int .i64 k, .agg #[.pointer a, .int .i64 k], .int .i64 most,
      .func (.func 98) #[] #[.pointer (some ⟨n0 + 1 + 1, 0, none⟩), .pointer (some ⟨n0 + 1, 0, none⟩)], .int .i64 i, .bool b, undef, undef, undef, undef, undef], defers := [] }) ?assign ?body ?done ?stop
  case assign =>
    intro l2 m i b K W3 hK
    gi_wp2
    exact hK
  case body =>
    rintro l2 m x S3 U3 pre b W3 hpre ⟨hj, hl, hd⟩
    have hc0 := (hF0 hl).cell 0
    simp at hc0
    obtain ⟨fn, tmps, assign, body, hy, hR⟩ := hY b hpre hj (m - 1)
    gi_wp2
    refine ⟨fun h => by simp [Fence.wide] at h, ?_⟩
    refine RoundIn.mono (F := Fence.wide.inRound l2) hR ?_
    rintro e W4 (⟨rfl, hj4, hs4⟩ | ⟨rfl, hx4, hs4⟩)
    · gi_wp2
      exact ⟨⟨hj4, hl.same hs4 fun k hk => List.mem_append.2 (.inl hk), hd⟩, hs4.sub fun k hk => List.mem_append.2 (.inr hk)⟩
    · gi_wp2
      exact ⟨⟨rfl, hx4, hl.same hs4 fun k hk => List.mem_append.2 (.inl hk), hd⟩, hs4.sub fun k hk => List.mem_append.2 (.inr hk)⟩
  case done =>
    intro S3 U3 W3 hj hD hDU hDS
    go_wp2
    refine bodyN_normal [W2.heap.size] rfl (by simpa using hD) (by simp) (results_none rfl _ _ _) ?_
    exact ⟨⟨_, rfl⟩, .inl ⟨S3, own F ++ U3, hJ.put (atMem_framed _) hj.1 (List.mem_append.2 (.inr hDU)) hDS _⟩⟩
  case stop =>
    rintro c pre x S3 U3 W3 hpre ⟨rfl, hj⟩ hD hDU hDS
    go_wp2
    refine bodyN_normal [W2.heap.size] rfl (by simpa using hD) (by simp) (results_none rfl _ _ _) ?_
    exact ⟨⟨_, rfl⟩, .inr ⟨pre, x, S3, own F ++ U3, hpre, hJx.put (atMem_framed _) hj.1 (List.mem_append.2 (.inr hDU)) hDS _⟩⟩

end Go.Proofs.Ytejbeioiomjbpaa

/-
  CellNone, walked.
-/
import Derived.Test.YtejbeioiomjbpaaCellWorks
namespace Go.Proofs.Ytejbeioiomjbpaa
open Go.RowKit Go.Shelf
attribute [local go_sem] Oper.semAt_some

set_option maxRecDepth 100000 in
set_option maxHeartbeats 1000000 in
/-- Same where the second one is none, or both. -/
theorem Same_none (u v : Value) (w : World) (ru : Bool) (hu : Calls Try.prog 55 #[u] w fun e w' => e = .returned (.bool ru) ∧ w = w') (hv : NoArena w v) :
    Calls Try.prog 49 #[u, v] w fun e w' => e = .returned (.bool ru) ∧ w = w' := by
  have hv' := none_no v w hv
  have H2 := Lib.hid hv'
  have H1 := Lib.hid hu
  clear hv' hu hv
  cases ru with
  | true =>
    go_enter Try.func49, Try.ntmps49
    go_wp2_with fail
    refine H1.out.mono ?_
    rintro e w1 ⟨rfl, rfl⟩
    go_wp2_with fail
    refine H1.out.mono ?_
    rintro e w1 ⟨rfl, rfl⟩
    go_wp2_with fail
    refine H2.out.mono ?_
    rintro e w1 ⟨rfl, rfl⟩
    go_wp2_with fail
    go_ret
    exact ⟨rfl, rfl⟩
  | false =>
    go_enter Try.func49, Try.ntmps49
    go_wp2_with fail
    refine H1.out.mono ?_
    rintro e w1 ⟨rfl, rfl⟩
    go_wp2_with fail
    refine H2.out.mono ?_
    rintro e w1 ⟨rfl, rfl⟩
    go_wp2_with fail
    refine H1.out.mono ?_
    rintro e w1 ⟨rfl, rfl⟩
    go_wp2_with fail
    go_ret
    exact ⟨rfl, rfl⟩

section
variable {σ : Type} {M M2 : World → σ → List Nat → Prop} {w0 : World} {F : List (Nat × Obj)} {S : List Nat} {W W' : World}
/-- What one works on from here on: it is new. -/
theorem stay.enter {τ : Type} {N : World → τ → List Nat → Prop} {y : τ} {T : List Nat} {x : σ} (h : stay N w0 [] F y T W) (hk : Keeps Nothing W W') (hm : M W' x S) (hS : ∀ k ∈ S, W.heap.size ≤ k) : stay M w0 [] F x S W' := by
  refine ⟨⟨hm, (h.nothing.then hk).nothing, fun k hk' => .inr ?_⟩, h.lie.keeps hk fun _ _ => id, fun b hb => ⟨fun hb' => ?_, by simp⟩⟩
  · simp only [List.append_nil] at hk'
    rcases List.mem_append.1 hk' with h1 | h1
    · exact Nat.le_trans h.nothing.size (hS k h1)
    · exact h.own_new h1
  · have := h.lie.lt hb; have := hS b hb'; omega
end

/-- Nothing that one works on. -/
def NoM : World → Unit → List Nat → Prop := fun _ _ S => S = []
theorem noM_framed : Framed NoM := ⟨fun h _ => h, fun h => by rw [h]; simp⟩

/-- The log told, where it is another one's. -/
theorem Log_stay_any {σ : Type} {N : World → σ → List Nat → Prop} (hN : Framed N) {w0 : World} {S0 : List Nat} {F : List (Nat × Obj)} {y : σ} {T : List Nat} {X : Option Ar} {S : List Nat} {W : World} {v : Value} (h : stay N w0 S0 F y T W) (hx : Mem W v X S) (hm : ∀ A, X = some A → A.many ≤ 1024) :
    Calls Try.prog 27 #[v] W fun e W' => ∃ bl bf u G, e = .returned (.func (.func 65) #[] #[.pointer (some ⟨bl, 0, none⟩), .pointer (some ⟨bf, 0, none⟩)]) ∧
      stay N w0 S0 (G ++ F) y T W' ∧ (∀ W2, Lie W2 G → LogAt W2 bl bf u 0 (ringOf X)) ∧ (∀ k ∈ own G, W.heap.size ≤ k) := by
  refine (Log_any v X S W hx hm).mono ?_
  rintro e W' ⟨bl, bf, u, rfl, hl, hn, hk⟩
  obtain ⟨G, hG, hlie⟩ := lie_exists W' (logBlocks bl bf u) hl.lt
  refine ⟨bl, bf, u, G, rfl, h.news hN hk (by rw [hG]; exact hn) hlie, fun W2 h2 => hl.keep fun k hk' => lie_same hlie h2 k (by rw [hG]; exact hk'), by rw [hG]; exact hn⟩

namespace N1
def N0 : Option Ar := some ⟨[], 9, [], 0⟩
def N1 : Option Ar := (allot N0 1).1
def N2 (x : Int) : Option Ar := (acc N1 2 0 (fStore x)).1
theorem e0 : newOf 9 = (N0, 0) := rfl
theorem n0 : N0 = none → False := fun h => nomatch h
theorem e1 : allot N0 1 = (N1, 0, 0) := rfl
theorem e2 (x : Int) : (acc N1 2 0 (fStore x)).2.2.2 = 0 := rfl
theorem e2' (x : Int) : (acc N1 2 0 (fStore x)).1 = N2 x := rfl
theorem s2 (x : Int) : ∃ A, N2 x = some A := ⟨_, rfl⟩
theorem w1 : Few N1 20 := fun A e => by unfold N1 at e; cases e; decide
theorem m1 : ∀ A, N1 = some A → A.many ≤ 1024 := fun A e => by unfold N1 at e; cases e; decide
theorem r1 : ringOf N1 = [] := rfl
attribute [irreducible] N0 N1 N2
end N1

set_option maxRecDepth 100000 in
set_option maxHeartbeats 2000000 in
theorem CellNone_walk (k x y : Int) (zero : Bool) (w : World) (_wk : (Lit.int .i64 k).wf = true) (wx : (Lit.int .u64 x).wf = true) (_wy : (Lit.int .u64 y).wf = true) :
    Calls Try.prog 11 #[.int .i64 k, .int .u64 x, .int .u64 y, .bool zero] w fun e w' => e = .returned (.bool true) ∧ Keeps Nothing w w' := by
  have hx : 0 ≤ x ∧ x < 18446744073709551616 := by
    simp [Lit.wf, IntKind.min, IntKind.max, IntKind.bits, IntKind.signed] at wx
    omega
  have HX := Lib.hid hx
  clear hx wx
  obtain ⟨b0, hb0⟩ : ∃ b0, w.heap.size = b0 := ⟨_, rfl⟩
  cases zero with
  | false =>
    refine calls_of_wpN Try.func11 rfl ?_
    simp only [Try.ntmps11, List.size_toArray, List.length_cons, List.length_nil, Nat.reduceAdd, Nat.reduceSub, Array.replicate_succ, Array.replicate_zero, List.push_toArray, List.append_toArray, List.nil_append, List.cons_append]
    have hs : stay NoM w [] [(w.heap.size, .cells #[.bool false] 4 (0, 0))] () [] (w.alloc (.cells #[.bool false] 4)) :=
      stay.first noM_framed rfl (Keeps.refl _ _) (by simp)
    rw [hb0] at hs
    have hn : ∀ W, Lie W [(b0, .cells #[.bool false] 4 (0, 0))] → NoArena W (.pointer none) := fun _ _ => .inl rfl
    go_wp2_with first
      | (go_at_call 21; refine (stay_kept noM_framed hs (Alloc_none (.pointer none) k _ (hn _ hs.lie))).mono ?_; rintro e w2 ⟨rfl, hs2⟩; replace hs := hs2; clear hs2)
      | (go_at_call 22; refine (stay_kept noM_framed hs (Load_none (.pointer none) k _ (hn _ hs.lie))).mono ?_; rintro e w2 ⟨rfl, hs2⟩; replace hs := hs2; clear hs2)
      | (go_at_call 23; refine (stay_kept noM_framed hs (Store_none (.pointer none) k x _ (hn _ hs.lie))).mono ?_; rintro e w2 ⟨rfl, hs2⟩; replace hs := hs2; clear hs2)
      | (go_at_call 24; refine (stay_kept noM_framed hs (Swap_none (.pointer none) k x y _ (hn _ hs.lie))).mono ?_; rintro e w2 ⟨rfl, hs2⟩; replace hs := hs2; clear hs2)
      | (go_at_call 25; refine (stay_kept noM_framed hs (Add_none (.pointer none) k x _ (hn _ hs.lie))).mono ?_; rintro e w2 ⟨rfl, hs2⟩; replace hs := hs2; clear hs2)
      | (go_at_call 27; refine (Log_stay_any (X := none) (S := ptrBlock (.pointer none)) noM_framed hs ⟨hn _ hs.lie, rfl⟩ (fun _ e => by cases e)).mono ?_; rintro e w2 ⟨bl, bf, u, G, rfl, hs2, hlog, hnew⟩; replace hs := hs2; clear hs2)
    have hq := Log1_seq (M := NoM) noM_framed () bl bf u 0 [] (by decide) (by omega)
    refine wp_range_seq noM_framed hq rfl (enters_of Try.func65 (by kernel_rfl) rfl) (fun _ _ => rfl)
      (inner (base NoM w []) _) (fun _ _ _ _ _ _ => False) (inner_rides base_rides _) (fun _ => ⟨fun h => h.elim, fun h => h.elim⟩)
      (fun h => hlog _ fun y hy => h.2.1 y (List.mem_append.2 (.inl hy))) _ (hs.to_loop [])
      (fun a i b => { tmps := (a.tmps.setIfInBounds 66 (.int .u64 i)).setIfInBounds 67 (.agg b.enc.toArray), defers := [] }) ?assign ?body ?done ?stop
    case assign =>
      intro l2 m i b K W4 hK
      gi_wp2
      exact hK
    case body =>
      intro l2 m x S4 U4 pre b W4 hpre hj
      simp at hpre
    case stop =>
      intro c pre x S3 U3 W4 _ h
      exact h.elim
    case done =>
      intro S4 U4 Wy hj hD hDU hDS
      have hs := stay.of_loop hj hD hDU hDS
      replace hs := hs.sub (G := (w2.heap.size, .deferred (some [])) :: [(b0, .cells #[.bool false] 4 (0, 0))]) (by intro y hy; rcases List.mem_cons.1 hy with rfl | hy; exact List.mem_cons_self .. ; exact List.mem_cons_of_mem _ (List.mem_append.2 (.inr hy)))
      clear hj hD hDU hDS hlog hnew
      obtain ⟨D1, hD1⟩ : ∃ D1, w2.heap.size = D1 := ⟨_, rfl⟩
      rw [hD1] at hs ⊢
      have hn2 : ∀ W, Lie W ((D1, .deferred (some [])) :: [(b0, .cells #[.bool false] 4 (0, 0))]) → NoArena W (.pointer none) := fun W h => hn W fun y hy => h y (List.mem_cons_of_mem _ hy)
      go_wp2_with first
        | (go_at_call 14; have C := New_any 9 Wy; rw [N1.e0] at C; refine C.mono ?_; clear C; rintro e w3 ⟨v, S3, rfl, hm, hS, hk, hv | ⟨-, o, rfl⟩⟩; exact absurd hv.1 N1.n0; have hso := hs.enter (M := AtMem (.pointer (some ⟨o, 0, none⟩))) hk hm hS; clear hs hm hS hk)
        | (go_at_call 21; have C := Alloc_any (.pointer (some ⟨o, 0, none⟩)) N1.N0 _ 1 _ hso.mem; rw [N1.e1] at C; refine (stay_call hso C).mono ?_; clear C; rintro e w3 ⟨rfl, S3, hs2⟩; replace hso := hs2; clear hs2)
        | (go_at_call 27; refine (Log_stay hso (atMem_framed _) N1.m1).mono ?_; rintro e w3 ⟨bl2, bf2, u2, G2, rfl, hs2, hlog2, hnew2⟩; replace hso := hs2; clear hs2)
        | (go_at_call 23; have C := Store_any (.pointer (some ⟨o, 0, none⟩)) N1.N1 _ 0 x _ hso.mem (N1.w1.le (by omega)) HX.out; rw [N1.e2, N1.e2'] at C; refine (stay_call hso C).mono ?_; clear C; rintro e w3 ⟨rfl, S3, hs2⟩; replace hso := hs2; clear hs2)
      have hq2 := Log1_seq (M := AtMem (.pointer (some ⟨o, 0, none⟩))) (atMem_framed _) (N1.N2 x) bl2 bf2 u2 0 [] (by decide) (by omega)
      rw [N1.r1] at hlog2
      have hDl : D1 < w3.heap.size := hso.lie.lt (by simp [own])
      refine wp_range_seq (atMem_framed (.pointer (some ⟨o, 0, none⟩))) hq2 rfl (enters_of Try.func65 (by kernel_rfl) rfl) (fun _ _ => rfl)
        (inner (base (AtMem (.pointer (some ⟨o, 0, none⟩))) w []) _) (fun _ _ _ _ _ _ => False) (inner_rides base_rides _) (fun _ => ⟨fun h => h.elim, fun h => h.elim⟩)
        (fun h => hlog2 _ fun y hy => h.2.1 y (List.mem_append.2 (.inl hy))) _ (hso.to_loop [])
        (fun a i b => { tmps := (a.tmps.setIfInBounds 85 (.int .u64 i)).setIfInBounds 86 (.agg b.enc.toArray), defers := [] }) ?assign2 ?body2 ?done2 ?stop2
      case assign2 =>
        intro l2 m i b K W4 hK
        gi_wp2
        exact hK
      case body2 =>
        intro l2 m x S4 U4 pre b W4 hpre hj
        simp at hpre
      case stop2 =>
        intro c pre x S3 U3 W4 _ h
        exact h.elim
      case done2 =>
        intro S5 U5 Wx hj hD hDU hDS
        have hso := stay.of_loop hj hD hDU hDS
        replace hso := hso.sub (G := (w3.heap.size, .deferred (some [])) :: (D1, .deferred (some [])) :: [(b0, .cells #[.bool false] 4 (0, 0))]) (by intro y hy; rcases List.mem_cons.1 hy with rfl | hy; exact List.mem_cons_self .. ; exact List.mem_cons_of_mem _ (List.mem_append.2 (.inr hy)))
        clear hj hD hDU hDS hlog2 hnew2
        obtain ⟨D2, hD2⟩ : ∃ D2, w3.heap.size = D2 := ⟨_, rfl⟩
        rw [hD2] at hso hDl ⊢
        have hn3 : ∀ W, Lie W ((D2, .deferred (some [])) :: (D1, .deferred (some [])) :: [(b0, .cells #[.bool false] 4 (0, 0))]) → NoArena W (.pointer none) := fun W h => hn2 W fun y hy => h y (List.mem_cons_of_mem _ hy)
        go_wp2_with first
          | (go_at_call 28; refine (num01_ok _ _).mono ?_; rintro e w' ⟨rfl, rfl⟩)
          | (go_at_call 46; refine (Len_none (hn3 _ hso.lie)).mono ?_; rintro e w' ⟨rfl, rfl⟩)
          | (go_at_call 47; refine (Most_none (hn3 _ hso.lie)).mono ?_; rintro e w' ⟨rfl, rfl⟩)
          | (go_at_call 26; refine (Count_none (hn3 _ hso.lie)).mono ?_; rintro e w' ⟨rfl, rfl⟩)
          | (go_at_call 48; refine (stay_kept (atMem_framed _) hso (Copy_none (.pointer none) _ (hn3 _ hso.lie))).mono ?_; rintro e w4 ⟨rfl, hs2⟩; replace hso := hs2; clear hs2)
        refine (Same_none (.pointer none) (.pointer none) _ true (none_no _ _ (hn3 _ hso.lie)) (.inl rfl)).mono ?_
        rintro e w' ⟨rfl, rfl⟩
        go_wp2_with fail
        obtain ⟨A, hA⟩ := N1.s2 x
        have hmm := hso.mem
        rw [hA] at hmm
        obtain ⟨o2, ho2, hmm⟩ := hmm
        cases ho2
        refine (Same_none (.pointer (some ⟨o, 0, none⟩)) (.pointer none) _ false (none_ar hmm) (hn3 _ hso.lie)).mono ?_
        rintro e w' ⟨rfl, rfl⟩
        clear hA hmm
        go_wp2_with (go_at_call 20; refine (stay_kept (atMem_framed _) hso (works01_ok _)).mono ?_; rintro e w5 ⟨rfl, hs2⟩; replace hso := hs2; clear hs2; have k0 := hso.blk (b := b0) (cs := #[.bool false]) (e := 4) (by simp); have cr := k0.cell 0; have fr := k0.frozen 0; simp at cr; clear k0)
        have kb : Blk w5 b0 #[.bool false] 4 := hso.blk (by simp)
        have kb2 := kb.set 0 (.bool true)
        have k1 : w5.heap[D1]? = some (.deferred (some [])) := hso.at (by simp)
        have k2 : w5.heap[D2]? = some (.deferred (some [])) := hso.at (by simp)
        have n1 := kb.ne_obj k1 rfl
        have n2 := kb.ne_obj k2 rfl
        have hr := (kb2.shut [D2, D1] (by simp; exact ⟨n2, n1⟩)).cell 0
        simp at hr
        refine bodyN_ret (v := .bool true) [D2, D1] rfl ?_ (by simp; omega) (by simp [results, Try.results11, go_sem, hr]) ⟨rfl, ?_⟩
        · simp only [List.mem_cons, List.not_mem_nil, or_false]
          rintro D (rfl | rfl)
          · exact (heap_setCell_other w5 ⟨b0, 0, none⟩ _ _ (Ne.symm n2)).trans k2
          · exact (heap_setCell_other w5 ⟨b0, 0, none⟩ _ _ (Ne.symm n1)).trans k1
        · refine Keeps.shut (hso.nothing.set _ _ (.inr (by rw [hb0]; exact Nat.le_refl _))) _ ?_
          simp only [List.mem_cons, List.not_mem_nil, or_false]
          rintro D (rfl | rfl)
          · exact .inr (hso.own_new (by simp [own]))
          · exact .inr (hso.own_new (by simp [own]))
  | true =>
    refine calls_of_wpN Try.func11 rfl ?_
    simp only [Try.ntmps11, List.size_toArray, List.length_cons, List.length_nil, Nat.reduceAdd, Nat.reduceSub, Array.replicate_succ, Array.replicate_zero, List.push_toArray, List.append_toArray, List.nil_append, List.cons_append]
    obtain ⟨q, hq⟩ : ∃ q, w.heap.size + 1 = q := ⟨_, rfl⟩
    have hs0 : stay NoM w [] [(w.heap.size, .cells #[.bool false] 4 (0, 0))] () [] (w.alloc (.cells #[.bool false] 4)) :=
      stay.first noM_framed rfl (Keeps.refl _ _) (by simp)
    have hs := hs0.box noM_framed (.cells #[.slice none 0 0, .int .u64 0, .slice none 0 0, .int .i64 0] 69)
    rw [World.size_alloc, hq, hb0] at hs
    rw [hb0] at hq
    have hn : ∀ W, Lie W [(q, .cells #[.slice none 0 0, .int .u64 0, .slice none 0 0, .int .i64 0] 69 (0, 0)), (b0, .cells #[.bool false] 4 (0, 0))] → NoArena W (.pointer (some ⟨q, 0, none⟩)) := fun _ h => .inr ⟨q, _, _, _, rfl, h (q, .cells #[.slice none 0 0, .int .u64 0, .slice none 0 0, .int .i64 0] 69 (0, 0)) (by simp)⟩
    go_wp2_with first
      | (go_at_call 21; refine (stay_kept noM_framed hs (Alloc_none (.pointer (some ⟨q, 0, none⟩)) k _ (hn _ hs.lie))).mono ?_; rintro e w2 ⟨rfl, hs2⟩; replace hs := hs2; clear hs2)
      | (go_at_call 22; refine (stay_kept noM_framed hs (Load_none (.pointer (some ⟨q, 0, none⟩)) k _ (hn _ hs.lie))).mono ?_; rintro e w2 ⟨rfl, hs2⟩; replace hs := hs2; clear hs2)
      | (go_at_call 23; refine (stay_kept noM_framed hs (Store_none (.pointer (some ⟨q, 0, none⟩)) k x _ (hn _ hs.lie))).mono ?_; rintro e w2 ⟨rfl, hs2⟩; replace hs := hs2; clear hs2)
      | (go_at_call 24; refine (stay_kept noM_framed hs (Swap_none (.pointer (some ⟨q, 0, none⟩)) k x y _ (hn _ hs.lie))).mono ?_; rintro e w2 ⟨rfl, hs2⟩; replace hs := hs2; clear hs2)
      | (go_at_call 25; refine (stay_kept noM_framed hs (Add_none (.pointer (some ⟨q, 0, none⟩)) k x _ (hn _ hs.lie))).mono ?_; rintro e w2 ⟨rfl, hs2⟩; replace hs := hs2; clear hs2)
      | (go_at_call 27; refine (Log_stay_any (X := none) (S := ptrBlock (.pointer (some ⟨q, 0, none⟩))) noM_framed hs ⟨hn _ hs.lie, rfl⟩ (fun _ e => by cases e)).mono ?_; rintro e w2 ⟨bl, bf, u, G, rfl, hs2, hlog, hnew⟩; replace hs := hs2; clear hs2)
    have hq := Log1_seq (M := NoM) noM_framed () bl bf u 0 [] (by decide) (by omega)
    refine wp_range_seq noM_framed hq rfl (enters_of Try.func65 (by kernel_rfl) rfl) (fun _ _ => rfl)
      (inner (base NoM w []) _) (fun _ _ _ _ _ _ => False) (inner_rides base_rides _) (fun _ => ⟨fun h => h.elim, fun h => h.elim⟩)
      (fun h => hlog _ fun y hy => h.2.1 y (List.mem_append.2 (.inl hy))) _ (hs.to_loop [])
      (fun a i b => { tmps := (a.tmps.setIfInBounds 66 (.int .u64 i)).setIfInBounds 67 (.agg b.enc.toArray), defers := [] }) ?assign ?body ?done ?stop
    case assign =>
      intro l2 m i b K W4 hK
      gi_wp2
      exact hK
    case body =>
      intro l2 m x S4 U4 pre b W4 hpre hj
      simp at hpre
    case stop =>
      intro c pre x S3 U3 W4 _ h
      exact h.elim
    case done =>
      intro S4 U4 Wy hj hD hDU hDS
      have hs := stay.of_loop hj hD hDU hDS
      replace hs := hs.sub (G := (w2.heap.size, .deferred (some [])) :: [(q, .cells #[.slice none 0 0, .int .u64 0, .slice none 0 0, .int .i64 0] 69 (0, 0)), (b0, .cells #[.bool false] 4 (0, 0))]) (by intro y hy; rcases List.mem_cons.1 hy with rfl | hy; exact List.mem_cons_self .. ; exact List.mem_cons_of_mem _ (List.mem_append.2 (.inr hy)))
      clear hj hD hDU hDS hlog hnew
      obtain ⟨D1, hD1⟩ : ∃ D1, w2.heap.size = D1 := ⟨_, rfl⟩
      rw [hD1] at hs ⊢
      have hn2 : ∀ W, Lie W ((D1, .deferred (some [])) :: [(q, .cells #[.slice none 0 0, .int .u64 0, .slice none 0 0, .int .i64 0] 69 (0, 0)), (b0, .cells #[.bool false] 4 (0, 0))]) → NoArena W (.pointer (some ⟨q, 0, none⟩)) := fun W h => hn W fun y hy => h y (List.mem_cons_of_mem _ hy)
      go_wp2_with first
        | (go_at_call 14; have C := New_any 9 Wy; rw [N1.e0] at C; refine C.mono ?_; clear C; rintro e w3 ⟨v, S3, rfl, hm, hS, hk, hv | ⟨-, o, rfl⟩⟩; exact absurd hv.1 N1.n0; have hso := hs.enter (M := AtMem (.pointer (some ⟨o, 0, none⟩))) hk hm hS; clear hs hm hS hk)
        | (go_at_call 21; have C := Alloc_any (.pointer (some ⟨o, 0, none⟩)) N1.N0 _ 1 _ hso.mem; rw [N1.e1] at C; refine (stay_call hso C).mono ?_; clear C; rintro e w3 ⟨rfl, S3, hs2⟩; replace hso := hs2; clear hs2)
        | (go_at_call 27; refine (Log_stay hso (atMem_framed _) N1.m1).mono ?_; rintro e w3 ⟨bl2, bf2, u2, G2, rfl, hs2, hlog2, hnew2⟩; replace hso := hs2; clear hs2)
        | (go_at_call 23; have C := Store_any (.pointer (some ⟨o, 0, none⟩)) N1.N1 _ 0 x _ hso.mem (N1.w1.le (by omega)) HX.out; rw [N1.e2, N1.e2'] at C; refine (stay_call hso C).mono ?_; clear C; rintro e w3 ⟨rfl, S3, hs2⟩; replace hso := hs2; clear hs2)
      have hq2 := Log1_seq (M := AtMem (.pointer (some ⟨o, 0, none⟩))) (atMem_framed _) (N1.N2 x) bl2 bf2 u2 0 [] (by decide) (by omega)
      rw [N1.r1] at hlog2
      have hDl : D1 < w3.heap.size := hso.lie.lt (by simp [own])
      refine wp_range_seq (atMem_framed (.pointer (some ⟨o, 0, none⟩))) hq2 rfl (enters_of Try.func65 (by kernel_rfl) rfl) (fun _ _ => rfl)
        (inner (base (AtMem (.pointer (some ⟨o, 0, none⟩))) w []) _) (fun _ _ _ _ _ _ => False) (inner_rides base_rides _) (fun _ => ⟨fun h => h.elim, fun h => h.elim⟩)
        (fun h => hlog2 _ fun y hy => h.2.1 y (List.mem_append.2 (.inl hy))) _ (hso.to_loop [])
        (fun a i b => { tmps := (a.tmps.setIfInBounds 85 (.int .u64 i)).setIfInBounds 86 (.agg b.enc.toArray), defers := [] }) ?assign2 ?body2 ?done2 ?stop2
      case assign2 =>
        intro l2 m i b K W4 hK
        gi_wp2
        exact hK
      case body2 =>
        intro l2 m x S4 U4 pre b W4 hpre hj
        simp at hpre
      case stop2 =>
        intro c pre x S3 U3 W4 _ h
        exact h.elim
      case done2 =>
        intro S5 U5 Wx hj hD hDU hDS
        have hso := stay.of_loop hj hD hDU hDS
        replace hso := hso.sub (G := (w3.heap.size, .deferred (some [])) :: (D1, .deferred (some [])) :: [(q, .cells #[.slice none 0 0, .int .u64 0, .slice none 0 0, .int .i64 0] 69 (0, 0)), (b0, .cells #[.bool false] 4 (0, 0))]) (by intro y hy; rcases List.mem_cons.1 hy with rfl | hy; exact List.mem_cons_self .. ; exact List.mem_cons_of_mem _ (List.mem_append.2 (.inr hy)))
        clear hj hD hDU hDS hlog2 hnew2
        obtain ⟨D2, hD2⟩ : ∃ D2, w3.heap.size = D2 := ⟨_, rfl⟩
        rw [hD2] at hso hDl ⊢
        have hn3 : ∀ W, Lie W ((D2, .deferred (some [])) :: (D1, .deferred (some [])) :: [(q, .cells #[.slice none 0 0, .int .u64 0, .slice none 0 0, .int .i64 0] 69 (0, 0)), (b0, .cells #[.bool false] 4 (0, 0))]) → NoArena W (.pointer (some ⟨q, 0, none⟩)) := fun W h => hn2 W fun y hy => h y (List.mem_cons_of_mem _ hy)
        go_wp2_with first
          | (go_at_call 28; refine (num01_ok _ _).mono ?_; rintro e w' ⟨rfl, rfl⟩)
          | (go_at_call 46; refine (Len_none (hn3 _ hso.lie)).mono ?_; rintro e w' ⟨rfl, rfl⟩)
          | (go_at_call 47; refine (Most_none (hn3 _ hso.lie)).mono ?_; rintro e w' ⟨rfl, rfl⟩)
          | (go_at_call 26; refine (Count_none (hn3 _ hso.lie)).mono ?_; rintro e w' ⟨rfl, rfl⟩)
          | (go_at_call 48; refine (stay_kept (atMem_framed _) hso (Copy_none (.pointer (some ⟨q, 0, none⟩)) _ (hn3 _ hso.lie))).mono ?_; rintro e w4 ⟨rfl, hs2⟩; replace hso := hs2; clear hs2)
        refine (Same_none (.pointer (some ⟨q, 0, none⟩)) (.pointer none) _ true (none_no _ _ (hn3 _ hso.lie)) (.inl rfl)).mono ?_
        rintro e w' ⟨rfl, rfl⟩
        go_wp2_with fail
        obtain ⟨A, hA⟩ := N1.s2 x
        have hmm := hso.mem
        rw [hA] at hmm
        obtain ⟨o2, ho2, hmm⟩ := hmm
        cases ho2
        refine (Same_none (.pointer (some ⟨o, 0, none⟩)) (.pointer (some ⟨q, 0, none⟩)) _ false (none_ar hmm) (hn3 _ hso.lie)).mono ?_
        rintro e w' ⟨rfl, rfl⟩
        clear hA hmm
        go_wp2_with (go_at_call 20; refine (stay_kept (atMem_framed _) hso (works01_ok _)).mono ?_; rintro e w5 ⟨rfl, hs2⟩; replace hso := hs2; clear hs2; have k0 := hso.blk (b := b0) (cs := #[.bool false]) (e := 4) (by simp); have cr := k0.cell 0; have fr := k0.frozen 0; simp at cr; clear k0)
        have kb : Blk w5 b0 #[.bool false] 4 := hso.blk (by simp)
        have kb2 := kb.set 0 (.bool true)
        have k1 : w5.heap[D1]? = some (.deferred (some [])) := hso.at (by simp)
        have k2 : w5.heap[D2]? = some (.deferred (some [])) := hso.at (by simp)
        have n1 := kb.ne_obj k1 rfl
        have n2 := kb.ne_obj k2 rfl
        have hr := (kb2.shut [D2, D1] (by simp; exact ⟨n2, n1⟩)).cell 0
        simp at hr
        refine bodyN_ret (v := .bool true) [D2, D1] rfl ?_ (by simp; omega) (by simp [results, Try.results11, go_sem, hr]) ⟨rfl, ?_⟩
        · simp only [List.mem_cons, List.not_mem_nil, or_false]
          rintro D (rfl | rfl)
          · exact (heap_setCell_other w5 ⟨b0, 0, none⟩ _ _ (Ne.symm n2)).trans k2
          · exact (heap_setCell_other w5 ⟨b0, 0, none⟩ _ _ (Ne.symm n1)).trans k1
        · refine Keeps.shut (hso.nothing.set _ _ (.inr (by rw [hb0]; exact Nat.le_refl _))) _ ?_
          simp only [List.mem_cons, List.not_mem_nil, or_false]
          rintro D (rfl | rfl)
          · exact .inr (hso.own_new (by simp [own]))
          · exact .inr (hso.own_new (by simp [own]))

end Go.Proofs.Ytejbeioiomjbpaa

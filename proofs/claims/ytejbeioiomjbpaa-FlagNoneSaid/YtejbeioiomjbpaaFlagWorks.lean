/-
  Layer 12: the chapter's rows.
-/
import Derived.Test.YtejbeioiomjbpaaFlag7
import Derived.Test.YtejbeioiomjbpaaFlag1
import Derived.Test.YtejbeioiomjbpaaStay2
namespace Go.Proofs.Ytejbeioiomjbpaa
open Go.RowKit Go.Shelf
attribute [local go_sem] Oper.semAt_some

@[go_sem] theorem eql_seqIF (f : Fn) (r cs : Array Value) (w : World) : (binOp .eql 137 (.func f r cs) .nilFunc).run Try.prog w = .ok (.bool false) w :=
  run_eql_func_nil w _ f r cs Try.underlying137

theorem num12_ok (k : Int) (w : World) : Calls Try.prog 39 #[.int .i64 k] w fun e w' => e = .returned (.int .i64 k) ∧ w = w' := by
  go_enter Try.func39, Try.ntmps39
  go_wp2
  go_ret
  exact ⟨rfl, rfl⟩

theorem of_ok (k was : Int) (o : Bool) (w : World) : Calls Try.prog 75 #[.int .i64 k, .bool o, .int .i64 was] w fun e w' => e = .returned (.agg #[.int .i64 k, .bool o, .int .i64 was]) ∧ Keeps Nothing w w' := by
  go_enter Try.func75, Try.ntmps75
  go_wp2
  exact bodyPost_ret (v := .agg #[.int .i64 k, .bool o, .int .i64 was]) (by simp [results, Try.results75, go_sem]) rfl ⟨rfl, (Keeps.refl _ _).alloc _⟩

/-- A new row of acts. -/
theorem rowF_new (W : World) (l : List FAct) (hl : l.length ≤ 1000) : (W.alloc (.cells (fencs l).toArray 84)).ownsRow 0 84 3 (.slice (some ⟨W.heap.size, 0, none⟩) l.length l.length) l.length (fencs l) :=
  ⟨fencs_length l, .inr ⟨_, l.length, (fencs l).toArray, rfl, Nat.zero_le _, heap_alloc_new W _, Nat.le_refl _, by unfold maxLen; omega, by simp [fencs_length], by rw [List.take_of_length_le]; simp [fencs_length]⟩⟩

/-- Nothing that one works on. -/
def NoF : World → Unit → List Nat → Prop := fun _ _ S => S = []
theorem noF_framed : Framed NoF := ⟨fun h _ => h, fun h => by rw [h]; simp⟩

namespace W12
def X0 : Option Ar := (newOf 2).1
def X1 := (allot X0 1).1
def X2 := (acc X1 1 0 fLoad).1
def X3 := (acc X2 3 0 (fSwap 0 1)).1
def X4 := (acc X3 3 0 (fSwap 0 2)).1
def X5 := (acc X4 3 0 (fSwap 0 1)).1
def X6 := (acc X5 2 0 (fStore 0)).1
def X7 := (acc X6 3 0 (fSwap 0 2)).1
def X8 := (acc X7 3 0 (fSwap 0 2)).1
def X9 := (acc X8 1 0 fLoad).1
theorem n0 : X0 = none → False := fun h => nomatch h
theorem e0 : newOf 2 = (X0, 0) := rfl
theorem e1 : allot X0 1 = (X1, 0, 0) := rfl
theorem e2 : acc X1 1 0 fLoad = (X2, 0, true, 0) := rfl
theorem e3 : acc X2 3 0 (fSwap 0 1) = (X3, 0, true, 0) := rfl
theorem e4 : acc X3 3 0 (fSwap 0 2) = (X4, 1, false, 0) := rfl
theorem e5 : acc X4 3 0 (fSwap 0 1) = (X5, 1, false, 0) := rfl
theorem e6 : acc X5 2 0 (fStore 0) = (X6, 1, true, 0) := rfl
theorem e7 : acc X6 3 0 (fSwap 0 2) = (X7, 0, true, 0) := rfl
theorem e8 : acc X7 3 0 (fSwap 0 2) = (X8, 2, false, 0) := rfl
theorem e9 : acc X8 1 0 fLoad = (X9, 2, true, 0) := rfl
theorem h0 : hadOf 0 0 = (0, 0) := rfl
theorem h1 : hadOf 1 0 = (1, 0) := rfl
theorem h2 : hadOf 2 0 = (2, 0) := rfl
theorem w1 : Few X1 20 := fun A e => by unfold X1 at e; cases e; decide
theorem w2 : Few X2 20 := fun A e => by unfold X2 at e; cases e; decide
theorem w3 : Few X3 20 := fun A e => by unfold X3 at e; cases e; decide
theorem w4 : Few X4 20 := fun A e => by unfold X4 at e; cases e; decide
theorem w5 : Few X5 20 := fun A e => by unfold X5 at e; cases e; decide
theorem w6 : Few X6 20 := fun A e => by unfold X6 at e; cases e; decide
theorem w7 : Few X7 20 := fun A e => by unfold X7 at e; cases e; decide
theorem w8 : Few X8 20 := fun A e => by unfold X8 at e; cases e; decide
attribute [irreducible] X0 X1 X2 X3 X4 X5 X6 X7 X8 X9

theorem fa : farF 0 false [⟨1, true, 0⟩, ⟨3, false, 1⟩, ⟨4, true, 1⟩] = [1, 1, 2] := rfl
theorem fb : farF 0 false [⟨1, false, 0⟩] = [] := rfl
theorem fc : farF 0 false [⟨1, true, 0⟩, ⟨5, true, 1⟩] = [1] := rfl
theorem fd : farF 0 false [⟨3, true, 0⟩, ⟨3, false, 0⟩] = [2] := rfl
end W12

theorem stay.forget {σ : Type} {M : World → σ → List Nat → Prop} {w0 W : World} {F : List (Nat × Obj)} {x : σ} {S : List Nat} (h : stay M w0 [] F x S W) : stay NoF w0 [] F () [] W :=
  ⟨⟨rfl, h.nothing.nothing, fun k hk => .inr (h.own_new (by simpa using hk))⟩, h.lie, fun _ _ => ⟨by simp, by simp⟩⟩

def acts3 : List FAct := [⟨1, true, 0⟩, ⟨3, false, 1⟩, ⟨4, true, 1⟩]
theorem W12.fa' : farF 0 false acts3 = [1, 1, 2] := rfl

/-- Follows, of a new row. -/
theorem Follows_new (l : List FAct) (m : Nat) (W : World) (hl : l.length ≤ 1000) (hm : (farF 0 false l).length = m) (hlt : m < l.length) :
    Calls Try.prog 43 #[.slice (some ⟨W.heap.size, 0, none⟩) l.length l.length] (W.alloc (.cells (fencs l).toArray 84)) fun e w' => e = .returned (.tuple #[.int .i64 m, .bool false]) ∧ Keeps Nothing W w' := by
  refine (Follows_ok l _ _ (rowF_new W l hl) (by omega)).mono ?_
  rintro e w' ⟨h | h, hk⟩
  · exact ⟨by rw [h.2, hm], ((Keeps.refl _ _).alloc _).then hk⟩
  · omega

theorem W12.f25 (W : World) : Calls Try.prog 43 #[.slice (some ⟨W.heap.size, 0, none⟩) 1 1] (W.alloc (.cells #[.int .i64 1, .bool false, .int .i64 0] 84)) fun e w' => e = .returned (.tuple #[.int .i64 0, .bool false]) ∧ Keeps Nothing W w' :=
  Follows_new [⟨1, false, 0⟩] 0 W (by decide) rfl (by decide)
theorem W12.f26 (W : World) : Calls Try.prog 43 #[.slice (some ⟨W.heap.size, 0, none⟩) 2 2] (W.alloc (.cells #[.int .i64 1, .bool true, .int .i64 0, .int .i64 5, .bool true, .int .i64 1] 84)) fun e w' => e = .returned (.tuple #[.int .i64 1, .bool false]) ∧ Keeps Nothing W w' :=
  Follows_new [⟨1, true, 0⟩, ⟨5, true, 1⟩] 1 W (by decide) rfl (by decide)
theorem W12.f27 (W : World) : Calls Try.prog 43 #[.slice (some ⟨W.heap.size, 0, none⟩) 2 2] (W.alloc (.cells #[.int .i64 3, .bool true, .int .i64 0, .int .i64 3, .bool false, .int .i64 0] 84)) fun e w' => e = .returned (.tuple #[.int .i64 1, .bool false]) ∧ Keeps Nothing W w' :=
  Follows_new [⟨3, true, 0⟩, ⟨3, false, 0⟩] 1 W (by decide) rfl (by decide)

set_option maxRecDepth 100000 in
set_option maxHeartbeats 4000000 in
theorem works12_ok (w : World) : Calls Try.prog 42 #[] w fun e w' => e = .returned (.bool true) ∧ Keeps Nothing w w' := by
  refine calls_of_wpN Try.func42 rfl ?_
  simp only [Try.ntmps42, List.size_toArray, List.length_nil, Nat.reduceSub, Array.replicate_succ, Array.replicate_zero, List.push_toArray, List.append_toArray, List.nil_append, List.cons_append]
  go_upto_region 10 with first
    | (go_at_call 14; have C := New_any 2 (w.alloc (.cells #[.bool false] 4)); rw [W12.e0] at C; refine C.mono ?_; clear C; rintro e w1 ⟨v, S, rfl, hm, hS, hk, hv | ⟨-, q, rfl⟩⟩; exact absurd hv.1 W12.n0; have hs := stay.first (M := AtMem (.pointer (some ⟨q, 0, none⟩))) (atMem_framed _) hm hk hS; have hv : ∃ b, Value.pointer (some ⟨q, 0, none⟩) = .pointer b := ⟨_, rfl⟩; clear hm hk hS)
    | (go_at_call 35; have C := flagNew_any (.pointer (some ⟨q, 0, none⟩)) W12.X0 _ _ hs.mem; rw [W12.e1] at C; refine (stay_call hs C).mono ?_; clear C; rintro e w2 ⟨rfl, S2, hs2⟩; replace hs := hs2; clear hs2)
    | (go_at_call 38; have C := Look_any (.pointer (some ⟨q, 0, none⟩)) W12.X1 _ 0 _ hs.mem (W12.w1.le (by omega)) hv; rw [W12.e2] at C; dsimp only at C; rw [W12.h0] at C; refine (stay_call hs C).mono ?_; clear C; rintro e w2 ⟨rfl, S2, hs2⟩; replace hs := hs2; clear hs2)
    | (go_at_call 36; have C := Claim_any (.pointer (some ⟨q, 0, none⟩)) W12.X2 _ 0 _ hs.mem (W12.w2.le (by omega)) hv; rw [W12.e3] at C; dsimp only at C; rw [W12.h0] at C; refine (stay_call hs C).mono ?_; clear C; rintro e w2 ⟨rfl, S2, hs2⟩; replace hs := hs2; clear hs2)
    | (go_at_call 37; have C := Take_any (.pointer (some ⟨q, 0, none⟩)) W12.X3 _ 0 _ hs.mem (W12.w3.le (by omega)) hv; rw [W12.e4] at C; dsimp only at C; rw [W12.h1] at C; refine (stay_call hs C).mono ?_; clear C; rintro e w2 ⟨rfl, S2, hs2⟩; replace hs := hs2; clear hs2)
    | (go_at_call 36; have C := Claim_any (.pointer (some ⟨q, 0, none⟩)) W12.X4 _ 0 _ hs.mem (W12.w4.le (by omega)) hv; rw [W12.e5] at C; dsimp only at C; rw [W12.h1] at C; refine (stay_call hs C).mono ?_; clear C; rintro e w2 ⟨rfl, S2, hs2⟩; replace hs := hs2; clear hs2)
    | (go_at_call 40; have C := Unclaim_any (.pointer (some ⟨q, 0, none⟩)) W12.X5 _ 0 _ hs.mem (W12.w5.le (by omega)); rw [W12.e6] at C; refine (stay_call hs C).mono ?_; clear C; rintro e w2 ⟨rfl, S2, hs2⟩; replace hs := hs2; clear hs2)
    | (go_at_call 37; have C := Take_any (.pointer (some ⟨q, 0, none⟩)) W12.X6 _ 0 _ hs.mem (W12.w6.le (by omega)) hv; rw [W12.e7] at C; dsimp only at C; rw [W12.h0] at C; refine (stay_call hs C).mono ?_; clear C; rintro e w2 ⟨rfl, S2, hs2⟩; replace hs := hs2; clear hs2)
    | (go_at_call 37; have C := Take_any (.pointer (some ⟨q, 0, none⟩)) W12.X7 _ 0 _ hs.mem (W12.w7.le (by omega)) hv; rw [W12.e8] at C; dsimp only at C; rw [W12.h2] at C; refine (stay_call hs C).mono ?_; clear C; rintro e w2 ⟨rfl, S2, hs2⟩; replace hs := hs2; clear hs2)
  go_upto_region 13 with first
    | (go_at_call 38; have C := Look_any (.pointer (some ⟨q, 0, none⟩)) W12.X8 _ 0 _ hs.mem (W12.w8.le (by omega)) hv; rw [W12.e9] at C; dsimp only at C; rw [W12.h2] at C; refine (stay_call hs C).mono ?_; clear C; rintro e w2 ⟨rfl, S2, hs2⟩; replace hs := hs2; clear hs2)
    | (go_at_call 39; refine (num12_ok _ _).mono ?_; rintro e w' ⟨rfl, rfl⟩)
  have hn := hs.forget
  clear hs hv
  go_upto_region 14 with (go_at_call 75; refine (stay_kept noF_framed hn (of_ok _ _ _ _)).mono ?_; rintro e w3 ⟨rfl, hn2⟩; replace hn := hn2; clear hn2)
  have hrow : (w3.alloc (.cells #[.int .i64 1, .bool true, .int .i64 0, .int .i64 3, .bool false, .int .i64 1, .int .i64 4, .bool true, .int .i64 1] 84)).ownsRow 0 84 3 (.slice (some ⟨w3.heap.size, 0, none⟩) 3 3) 3 (fencs acts3) := rowF_new w3 acts3 (by decide)
  have hn3 := hn.box noF_framed (.cells #[.int .i64 1, .bool true, .int .i64 0, .int .i64 3, .bool false, .int .i64 1, .int .i64 4, .bool true, .int .i64 1] 84)
  have CF : Calls Try.prog 43 #[.slice (some ⟨w3.heap.size, 0, none⟩) 3 3] (w3.alloc (.cells #[.int .i64 1, .bool true, .int .i64 0, .int .i64 3, .bool false, .int .i64 1, .int .i64 4, .bool true, .int .i64 1] 84)) fun e w' => e = .returned (.tuple #[.int .i64 0, .bool true]) ∧ Keeps Nothing (w3.alloc (.cells #[.int .i64 1, .bool true, .int .i64 0, .int .i64 3, .bool false, .int .i64 1, .int .i64 4, .bool true, .int .i64 1] 84)) w' := by
    refine (Follows_ok acts3 _ _ hrow (by decide)).mono ?_
    rintro e w' ⟨h | h, hk⟩
    · exact absurd h.1 (by decide)
    · exact ⟨h.2, hk⟩
  obtain ⟨W3, hW3⟩ : ∃ W3, w3.alloc (.cells #[.int .i64 1, .bool true, .int .i64 0, .int .i64 3, .bool false, .int .i64 1, .int .i64 4, .bool true, .int .i64 1] 84) = W3 := ⟨_, rfl⟩
  obtain ⟨g3, hg3⟩ : ∃ g3, w3.heap.size = g3 := ⟨_, rfl⟩
  rw [hW3, hg3] at CF hrow
  rw [hW3] at hn3 ⊢
  rw [hg3]
  have HROW := Lib.hid hrow
  clear hrow hn hW3 hg3
  go_upto_region 16 with first
    | (go_at_call 43; refine CF.mono ?_; clear CF; rintro e w4 ⟨rfl, hk4⟩; have hn4 := hn3.keep noF_framed hk4; have hrow4 := ownsRow_kept HROW.out fun k hk => hk4.block k (by obtain ⟨cs, hcs⟩ := ownsRow_blk HROW.out hk; exact hcs.lt) id; clear hn3 hk4)
    | (go_at_call 76; refine (States_ok acts3 _ _ hrow4 (by decide)).mono ?_; rintro e w5 ⟨rfl, hs5, hk5⟩; have HS5 := Lib.hid hs5; have HK5 := Lib.hid hk5; clear hs5 hk5 hrow4)
  obtain ⟨r, hr⟩ : ∃ r, w4.heap.size = r := ⟨_, rfl⟩
  obtain ⟨s5, c5, u, hsts⟩ := HS5.out
  rw [hr, W12.fa'] at hsts
  obtain ⟨G, hG, hlie⟩ := lie_exists w5 ((r + 2) :: u.ownBlock.toList) (by
    intro k hk
    simp only [List.mem_cons, Option.mem_toList] at hk
    rcases hk with rfl | hk
    · exact hsts.list.lt
    · obtain ⟨cs, hcs⟩ := ownsRow_blk hsts.row hk; exact hcs.lt)
  have hn5 := hn4.news noF_framed HK5.out (G := G) (by
    rw [hG]
    intro k hk
    simp only [List.mem_cons, Option.mem_toList] at hk
    rcases hk with rfl | hk
    · omega
    · have := ownsRow_from hsts.row hk; omega) hlie
  have hst : ∀ W2, Lie W2 G → StList W2 (r + 2) (r + 3) u [1, 1, 2] := fun W2 h2 =>
    ⟨(lie_same hlie h2 (r + 2) (by rw [hG]; simp)).trans hsts.list, ownsRow_kept hsts.row fun k hk => lie_same hlie h2 k (by rw [hG]; simp [hk])⟩
  rw [hr]
  clear hn4 HS5 HK5 hsts hG hlie hr
  go_upto_block 0 with fail
  obtain ⟨b0, hb0⟩ : ∃ b0, w.heap.size = b0 := ⟨_, rfl⟩
  obtain ⟨R0, hR0⟩ : ∃ R0, G ++ [(w3.heap.size, Obj.cells #[.int .i64 1, .bool true, .int .i64 0, .int .i64 3, .bool false, .int .i64 1, .int .i64 4, .bool true, .int .i64 1] 84 (0, 0)), (w.heap.size, Obj.cells #[.bool false] 4 (0, 0))] = R0 := ⟨_, rfl⟩
  have hn5' : stay NoF w [] R0 () [] w5 := by rw [← hR0]; exact hn5
  have hRG : ∀ y ∈ G, y ∈ R0 := by rw [← hR0]; intro y hy; simp [hy]
  have hRb : (b0, Obj.cells #[.bool false] 4 (0, 0)) ∈ R0 := by rw [← hR0, ← hb0]; simp
  clear hR0 hn5
  obtain ⟨bw, hbw⟩ : ∃ bw, w5.heap.size = bw := ⟨_, rfl⟩
  have hn6 := ((hn5'.box noF_framed (.cells #[.int .i64 1, .int .i64 1, .int .i64 2] 77)).box noF_framed (.cells #[.slice (some ⟨bw, 0, none⟩) 3 3] 139)).box noF_framed (.cells #[.int .i64 0] 3)
  simp only [World.size_alloc, hbw] at hn6
  rw [hbw, hb0]
  have hne : bw + 1 + 1 ∉ own ((bw + 1, Obj.cells #[.slice (some ⟨bw, 0, none⟩) 3 3] 139 (0, 0)) :: (bw, Obj.cells #[.int .i64 1, .int .i64 1, .int .i64 2] 77 (0, 0)) :: R0) := by
    intro h
    simp only [own, List.map_cons, List.mem_cons] at h
    rcases h with h | h | h
    · omega
    · omega
    · have := hn5'.lie.lt h; omega
  obtain ⟨w6, hw6⟩ : ∃ w6, (((w5.alloc (.cells #[.int .i64 1, .int .i64 1, .int .i64 2] 77)).alloc (.cells #[.slice (some ⟨bw, 0, none⟩) 3 3] 139)).alloc (.cells #[.int .i64 0] 3)) = w6 := ⟨_, rfl⟩
  rw [hw6] at hn6 ⊢
  have hn7 : stay NoF w [] ((bw + 1 + 1, Obj.cells #[.int .i64 (([] : List Int).length : Nat)] 3 (0, 0)) :: (bw + 1, Obj.cells #[.slice (some ⟨bw, 0, none⟩) 3 3] 139 (0, 0)) :: (bw, Obj.cells #[.int .i64 1, .int .i64 1, .int .i64 2] 77 (0, 0)) :: R0) () [] w6 := hn6
  clear hn5' hw6 hbw hn6
  go_wp2_with fail
  have hq := States2_seq (M := NoF) noF_framed () (r + 2) (r + 3) u [1, 1, 2] (by decide)
  refine wp_range_seq noF_framed hq rfl (enters_of Try.func101 (by kernel_rfl) rfl) (fun _ _ => rfl)
    (fun X S U pre W => inner (base NoF w []) ((bw + 1 + 1, Obj.cells #[.int .i64 (pre.length : Nat)] 3 (0, 0)) :: (bw + 1, Obj.cells #[.slice (some ⟨bw, 0, none⟩) 3 3] 139 (0, 0)) :: (bw, Obj.cells #[.int .i64 1, .int .i64 1, .int .i64 2] 77 (0, 0)) :: R0) X S U pre W)
    (fun _ _ _ _ _ _ => False) ⟨fun h => (inner_rides base_rides _).mem h, fun h hm ht => (inner_rides base_rides _).turn h hm ht⟩ (fun _ => ⟨fun h => h.elim, fun h => h.elim⟩)
    (fun h => hst _ fun y hy => h.2.1 y (by simp [hRG y hy])) _ (hn7.to_loop [])
    (fun a i b => { tmps := (((a.tmps.setIfInBounds 177 (.int .i64 i)).setIfInBounds 178 (.int .i64 b)).setIfInBounds 26 (.int .i64 i)).setIfInBounds 27 (.int .i64 b), defers := [] }) ?assign ?body ?done ?stop
  case assign =>
    intro l2 m i b K W4 hK
    gi_wp2
    exact hK
  case stop =>
    intro c pre x S3 U3 W4 _ h
    exact h.elim
  case body =>
    intro l2 m x S3 U3 pre b W4 hpre hj
    have hcase : (pre.length = 0 ∧ b = 1) ∨ (pre.length = 1 ∧ b = 1) ∨ (pre.length = 2 ∧ b = 2) := by
      have hlen := hpre.length_le
      simp only [List.length_append, List.length_cons, List.length_nil] at hlen
      have hb : ([1, 1, 2] : List Int)[pre.length]? = some b := by
        obtain ⟨t, ht⟩ := hpre
        rw [← ht]; simp
      have : pre.length = 0 ∨ pre.length = 1 ∨ pre.length = 2 := by omega
      rcases this with h | h | h <;> rw [h] at hb <;> simp at hb <;> simp [h, hb]
    have kn : Blk W4 (bw + 1 + 1) #[.int .i64 (pre.length : Nat)] 3 := hj.2.1 (bw + 1 + 1, _) (by simp)
    have ks : Blk W4 (bw + 1) #[.slice (some ⟨bw, 0, none⟩) 3 3] 139 := hj.2.1 (bw + 1, _) (by simp)
    have kw : Blk W4 bw #[.int .i64 1, .int .i64 1, .int .i64 2] 77 := hj.2.1 (bw, _) (by simp)
    have n0 := kn.cell 0
    have n1 := kn.frozen 0
    have n2 := kn.lt
    have s0 := ks.cell 0
    have v0 := kw.cell 0
    have v1 := kw.cell 1
    have v2 := kw.cell 2
    simp at n0 s0 v0 v1 v2
    clear kn ks kw hq hn7
    have HJ := Lib.hid hj
    clear hj
    rcases hcase with ⟨h, rfl⟩ | ⟨h, rfl⟩ | ⟨h, rfl⟩
    · have hfin := inner_set1 (v := .int .i64 1) (pre' := pre ++ [1]) noF_framed HJ.out hne
      have HFIN := Lib.hid hfin
      have H := Lib.hid h
      rw [h] at n0 ⊢
      clear h hfin
      gi_wp2
      exact HFIN.out.imp (fun h2 => by simpa [H.out] using h2) id
    · have hfin := inner_set1 (v := .int .i64 2) (pre' := pre ++ [1]) noF_framed HJ.out hne
      have HFIN := Lib.hid hfin
      have H := Lib.hid h
      rw [h] at n0 ⊢
      clear h hfin
      gi_wp2
      exact HFIN.out.imp (fun h2 => by simpa [H.out] using h2) id
    · have hfin := inner_set1 (v := .int .i64 3) (pre' := pre ++ [2]) noF_framed HJ.out hne
      have HFIN := Lib.hid hfin
      have H := Lib.hid h
      rw [h] at n0 ⊢
      clear h hfin
      gi_wp2
      exact HFIN.out.imp (fun h2 => by simpa [H.out] using h2) id
  case done =>
    intro S3 U3 Wz hj hD hDU hDS
    have hs := stay.of_loop hj hD hDU hDS
    clear hj hD hDU hDS hq hn7
    obtain ⟨D1, hD1⟩ : ∃ D1, w6.heap.size = D1 := ⟨_, rfl⟩
    rw [hD1] at hs ⊢
    have K25 : True := trivial
    go_wp2_with first
      | (go_at_call 75; refine (stay_kept noF_framed hs (of_ok _ _ _ _)).mono ?_; rintro e w7 ⟨rfl, hs2⟩; replace hs := hs2; clear hs2)
      | (have t := K25; clear t; clear K25; go_at_call 43; refine (W12.f25 _).mono ?_; rintro e w8 ⟨rfl, hk8⟩; have hs2 := hs.keep noF_framed hk8; clear hs hk8; have hs := hs2; clear hs2; have K26 : True := trivial)
      | (have t := K26; clear t; clear K26; go_at_call 43; refine (W12.f26 _).mono ?_; rintro e w8 ⟨rfl, hk8⟩; have hs2 := hs.keep noF_framed hk8; clear hs hk8; have hs := hs2; clear hs2; have K27 : True := trivial)
      | (have t := K27; clear t; clear K27; go_at_call 43; refine (W12.f27 _).mono ?_; rintro e w8 ⟨rfl, hk8⟩; have hs2 := hs.keep noF_framed hk8; clear hs hk8; have hs := hs2; clear hs2; have K28 : True := trivial; have kx := hs.blk (b := bw + 1 + 1) (cs := #[.int .i64 3]) (e := 3) (by simp); have cx := kx.cell 0; simp at cx; clear kx; have k0 := hs.blk (b := b0) (cs := #[.bool false]) (e := 4) (by simp [hRb]); have cr := k0.cell 0; have fr := k0.frozen 0; have lr := k0.lt; simp at cr; clear k0)
    have k0 := hs.blk (b := b0) (cs := #[.bool false]) (e := 4) (by simp [hRb])
    have hD : w8.heap[D1]? = some (.deferred (some [])) := hs.at (b := D1) (by simp)
    have hne0 : D1 ≠ b0 := fun h => k0.ne_obj (o := .deferred (some [])) (k := D1) hD rfl h.symm
    have hr0 := ((k0.set 0 (.bool true)).shut [D1] (by simp; exact fun h => hne0 h.symm)).cell 0
    simp [World.shut] at hr0
    have hfk : Keeps Nothing w (World.shut (w8.setCell ⟨b0, 0, none⟩ (.bool true)) [D1]) := (hs.nothing.set _ _ (.inr (by rw [hb0]; exact Nat.le_refl _))).shut [D1] (by intro D h; simp only [List.mem_singleton] at h; subst h; exact .inr (hs.own_new (by simp [own])))
    refine bodyN_ret (v := .bool true) [D1] rfl (by intro D h; simp only [List.mem_singleton] at h; subst h; exact (heap_setCell_other w8 ⟨b0, 0, none⟩ D (.bool true) hne0).trans hD) (by simp) (by simp [results, Try.results42, go_sem, World.shut, hr0]) ⟨rfl, hfk⟩

end Go.Proofs.Ytejbeioiomjbpaa
